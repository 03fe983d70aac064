/- The program's merging of neighbours. -/
import Derived.Test.YtajcogpfmpehkaaGreatDoorFtW
import Derived.Test.YtajcogpfmpehkaaGreatDoorRgCL
import Derived.Lib.SliceRun
import Derived.Deep.RegionLaw
import Derived.Test.YtajcogpfmpehkaaGreatDoorMbMf
import Derived.Test.YtajcogpfmpehkaaGreatDoorMbW
namespace Go.Proofs.YtajcogpfmpehkaaGreatDoor
open Go.RowKit
/-- All cells with numbers are kept. -/
def IK (w w' : World) : Prop := w.heap.size ≤ w'.heap.size ∧ ∀ (p : Addr) (n : Int), w.cell? p = some (.int .i64 n) → w'.cell? p = some (.int .i64 n)
theorem IK.refl (w : World) : IK w w := ⟨Nat.le_refl _, fun _ _ h => h⟩
theorem IK.trans {w w1 w2 : World} (h : IK w w1) (g : IK w1 w2) : IK w w2 := ⟨Nat.le_trans h.1 g.1, fun p n e => g.2 p n (h.2 p n e)⟩
theorem IK.below {w w' : World} (h : Below w.heap.size w w') : IK w w' := ⟨h.size, fun p _ e => (h.cell (p := p) (World.block_lt_of_cell? _ _ e)).trans e⟩
/-- The first m cells of block g are there and are no numbers. -/
def NoI (w : World) (g m : Nat) : Prop := ∀ o, o < m → ∃ u, w.cell? ⟨g, o, none⟩ = some u ∧ ∀ n, u ≠ .int .i64 n
theorem NoI.set {w : World} {g m o : Nat} {v : Value} (h : NoI w g m) (hv : ∀ n, v ≠ .int .i64 n) (ho : o < m) : NoI (w.setCell ⟨g, o, none⟩ v) g m ∧ IK w (w.setCell ⟨g, o, none⟩ v) := by
  obtain ⟨u, hu, hn⟩ := h o ho
  refine ⟨fun j hj => ?_, by simp, fun p n hp => ?_⟩
  · by_cases e : j = o
    · subst e
      exact ⟨v, World.cell?_setCell_same' _ _ _ (by simp [hu]), hv⟩
    · obtain ⟨x, hx, hxn⟩ := h j hj
      exact ⟨x, by rw [World.cell?_setCell_other _ _ _ _ (by first | (simp; done) | (simp; omega))]; exact hx, hxn⟩
  · have hne : p ≠ ⟨g, o, none⟩ := fun e => by rw [e, hu] at hp; exact hn n (Option.some.inj hp)
    rw [World.cell?_setCell_other _ _ _ _ (Ne.symm hne)]
    exact hp
theorem NoI.sets {g m : Nat} : ∀ (vs : List Value) (o : Nat) (w : World), NoI w g m → (∀ v ∈ vs, ∀ n, v ≠ .int .i64 n) → o + vs.length ≤ m → NoI (w.setCells g o vs) g m ∧ IK w (w.setCells g o vs)
  | [], _, w, h, _, _ => ⟨h, IK.refl w⟩
  | v :: vs, o, w, h, hv, hm => by
    rw [List.length_cons] at hm
    obtain ⟨h1, k1⟩ := NoI.set (o := o) h (hv v List.mem_cons_self) (by omega)
    obtain ⟨h2, k2⟩ := NoI.sets vs (o + 1) _ h1 (fun x hx => hv x (List.mem_cons_of_mem _ hx)) (by omega)
    exact ⟨h2, k1.trans k2⟩
def R5.sl (r : R5) : Prop := ∃ a0 n0 p0 a1 n1 p1 a2 n2 p2 a3 n3 p3, r.v0 = .slice a0 n0 p0 ∧ r.v1 = .slice a1 n1 p1 ∧ r.v2 = .slice a2 n2 p2 ∧ r.v3 = .slice a3 n3 p3
theorem R5.ok.sl {lo : Nat} {w : World} {r : R5} {f : Ft} (h : R5.ok lo w r f) : r.sl := by
  obtain ⟨a0, n0, p0, a1, n1, p1, a2, n2, p2, a3, n3, p3, e0, e1, e2, e3⟩ := sl4_form h.1
  exact ⟨a0, n0, p0, a1, n1, p1, a2, n2, p2, a3, n3, p3, e0, e1, e2, e3⟩
def zeroF : List Value := [.slice none 0 0, .slice none 0 0, .slice none 0 0, .slice none 0 0, .bool false]
theorem All2.cut {α β : Type} {R : α → β → Prop} {la : List α} {lb : List β} (h : All2 R la lb) {i j : Nat} (hi : i ≤ la.length) : All2 R (la.take i ++ la.drop j) (lb.take i ++ lb.drop j) := by
  have hl := h.1
  refine ⟨by simp [hl], fun k x y hx hy => ?_⟩
  by_cases hk : k < i
  · rw [List.getElem?_append_left (by rw [List.length_take]; omega), List.getElem?_take_of_lt hk] at hx
    rw [List.getElem?_append_left (by rw [List.length_take]; omega), List.getElem?_take_of_lt hk] at hy
    exact h.2 k x y hx hy
  · rw [List.getElem?_append_right (by rw [List.length_take]; omega), List.length_take, Nat.min_eq_left hi, List.getElem?_drop] at hx
    rw [List.getElem?_append_right (by rw [List.length_take]; omega), List.length_take, Nat.min_eq_left (by omega), List.getElem?_drop] at hy
    exact h.2 _ x y hx hy
def slen (v : Value) : Nat := match v with
  | .slice _ n _ => n
  | _ => 0
end Go.Proofs.YtajcogpfmpehkaaGreatDoor
