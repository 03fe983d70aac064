/- BoxHas, equal lists, what a list decides, the probe; JudgeFlat. -/
import Derived.Test.YtajcogpfmpehkaaGreatDoorFmK
import Derived.Test.YtajcogpfmpehkaaGreatDoorCuW
import Derived.Test.YtajcogpfmpehkaaGreatDoorRgX
import Derived.Laws.StructEq
import Derived.Test.YtajcogpfmpehkaaGreatDoorRdPk
import Derived.Test.YtajcogpfmpehkaaGreatDoorFmZ
import Derived.Test.YtajcogpfmpehkaaGreatDoorProg
import Derived.Test.YtajcogpfmpehkaaGreatDoorBsA
namespace Go.Proofs.YtajcogpfmpehkaaGreatDoor
open Go.RowKit
/-- A drawn rule's box: n sets. -/
def FtOk (n : Nat → Prop) (fs : List Ft) : Prop := ∀ (k : Nat) f, fs[k]? = some f → n f.box.length ∧ ∀ (j : Nat) xs, f.box[j]? = some xs → xs.length ≤ 40
theorem FtOk.snoc {n : Nat → Prop} {fs : List Ft} (h : FtOk n fs) {f : Ft} (h1 : n f.box.length) (h2 : ∀ (j : Nat) xs, f.box[j]? = some xs → xs.length ≤ 40) : FtOk n (fs ++ [f]) := by
  intro k y hk
  by_cases hl : k < fs.length
  · rw [List.getElem?_append_left hl] at hk; exact h k y hk
  · have := (List.getElem?_eq_some_iff.1 hk).1
    simp at this
    obtain rfl : k = fs.length := by omega
    simp at hk
    subst hk; exact ⟨h1, h2⟩
theorem spStruct : Tryz.prog.underlying 60 = some (.struct (Tryz.prog.fieldsOf 60)) := by kernel_rfl
theorem spHeld : Tryz.prog.stoodInHeld 60 = false := by kernel_rfl
theorem spGuard : Tryz.prog.eqGuardType Tryz.prog.depth 60 = false := by kernel_rfl
theorem meet_none {a b : Bx} {p : Pk} (ha : a.length = 4) (hb : b.length = 4) (h : bempty (bmeet a b) = true) : (bhas a p && bhas b p) = false := by
  rw [← Bool.not_eq_true, Bool.and_eq_true]
  rintro ⟨h1, h2⟩
  rw [bhas_iff] at h1 h2
  unfold bempty at h
  rw [List.any_eq_true] at h
  obtain ⟨s, hs, he⟩ := h
  obtain ⟨n, hn, hsn⟩ := List.getElem_of_mem hs
  have hn4 : n < 4 := by simp [bmeet, ha, hb] at hn; omega
  have hm : (bmeet a b)[n]? = some s := by rw [List.getElem?_eq_getElem hn, hsn]
  have e1 := h1 n hn4
  have e2 := h2 n hn4
  rw [List.getD_eq_getElem?_getD, List.getElem?_eq_getElem (by omega), Option.getD_some] at e1 e2
  have : bmeet a b = List.zipWith smeet a b := rfl
  rw [this, List.getElem?_zipWith, List.getElem?_eq_getElem (by omega), List.getElem?_eq_getElem (by omega)] at hm
  simp only [Option.some.injEq] at hm
  have hh := smeet_has (b[n]'(by omega)) (p.fld n) (a[n]'(by omega))
  rw [hm, e1, e2] at hh
  have hnil : s = [] := by simpa using he
  rw [hnil] at hh
  simp [shas] at hh
/-- What the first box with the packet decides, or r. -/
def jw : List Ft → Bool → Pk → Bool
  | [], r, _ => r
  | f :: fs, r, p => if bhas f.box p then f.acc else jw fs r p
def jfl (fs : List Ft) (r : Bool) (p : Pk) : Bool := fvalid fs && p.ok && jw fs r p
theorem Box4.put {w : World} {b : Nat} {v0 v1 v2 v3 : Int} (h : Box4 w b v0 v1 v2 v3) {j : Nat} (hj : j < 4) (v : Int) : ∃ u0 u1 u2 u3, Box4 (w.setCell ⟨b, j, none⟩ (.int .i64 v)) b u0 u1 u2 u3 := by
  rcases (by omega : j = 0 ∨ j = 1 ∨ j = 2 ∨ j = 3) with rfl | rfl | rfl | rfl
  · exact ⟨_, _, _, _, (h.set v).1⟩
  · exact ⟨_, _, _, _, (h.set v).2.1⟩
  · exact ⟨_, _, _, _, (h.set v).2.2.1⟩
  · exact ⟨_, _, _, _, (h.set v).2.2.2⟩
theorem Box4.far {w : World} {b : Nat} {v0 v1 v2 v3 : Int} (h : Box4 w b v0 v1 v2 v3) {p : Addr} (hp : p.block ≠ b) (u : Value) : Box4 (w.setCell p u) b v0 v1 v2 v3 :=
  h.mv (R := p.block) (B := w.heap.size) ⟨rfl, rfl, rfl, by simp, fun k _ hne => Below.heap_setCell _ _ _ _ hne⟩ h.lt (fun e => hp e.symm)
/-- The numbers of the probe in the making: some four. -/
def PbSt (w wr : World) : Prop := (∃ v0 v1 v2 v3, Box4 wr (w.heap.size + 1 + 1) v0 v1 v2 v3) ∧ Box4 wr w.heap.size 0 0 0 0 ∧ Below w.heap.size w wr
theorem PbSt.put {w wr : World} (h : PbSt w wr) {j : Nat} (hj : j < 4) (v : Int) : PbSt w (wr.setCell ⟨w.heap.size + 1 + 1, j, none⟩ (.int .i64 v)) :=
  let ⟨⟨v0, v1, v2, v3, h1⟩, h2, h3⟩ := h
  ⟨h1.put hj v, h2.far (by simp only; omega) _, h3.setCell (by simp only; omega) _⟩
/-- A fresh packet's block. -/
def FPk (base : Nat) : World → Value → Prop := fun w v => ∃ B, v = .pointer (some ⟨B, 0, none⟩) ∧ base ≤ B ∧ Box4 w B 0 0 0 0
def FPr : World → Value → Prop := fun _ v => ∃ a b c d : Int, v = .agg #[.int .i64 a, .int .i64 b, .int .i64 c, .int .i64 d]
/-- Where the drawn packet lies. -/
def GPk (i : Nat) : Nat → World → Value → Prop := fun j w v => j = i → ∃ (B : Nat) (a b c d : Int), v = .pointer (some ⟨B, 0, none⟩) ∧ Box4 w B a b c d
theorem Box4.all {w : World} {B : Nat} {u0 u1 u2 u3 : Int} (h : Box4 w B u0 u1 u2 u3) (a b c d : Int) : Box4 ((((w.setCell ⟨B, 0, none⟩ (.int .i64 a)).setCell ⟨B, 1, none⟩ (.int .i64 b)).setCell ⟨B, 2, none⟩ (.int .i64 c)).setCell ⟨B, 3, none⟩ (.int .i64 d)) B a b c d :=
  ((((h.set a).1.set b).2.1.set c).2.2.1.set d).2.2.2
set_option maxHeartbeats 400000 in
theorem have_one (b : Nat) (w : World) (hb : b < w.heap.size) (h0 : w.cell? ⟨b, 0, none⟩ = some (.int .i64 2)) (h1 : w.cell? ⟨b, 1, none⟩ = some (.int .i64 4)) :
    Calls Tryz.prog 28 #[.slice (some ⟨b, 0, none⟩) 1 1, .int .i64 3] w fun e w' => e = .returned (.bool true) ∧ Below w.heap.size w w' := by
  go_enter Tryz.func28, Tryz.ntmps28
  go_wp2_with fail
  go_loopw [9] (fun i wr => i = .int .i64 0 ∧ Below w.heap.size w wr) (fun _ _ => 0)
  case atStart => exact ⟨rfl, by (repeat' (first | with_reducible exact Below.refl _ _ | with_reducible assumption | with_reducible refine Below.setCell ?_ ?_ _ | with_reducible refine Below.alloc ?_ ?_ _ | with_reducible refine Below.drew ?_ | with_reducible refine belDrewN ?_ _ | with_reducible refine Below.trans ?_ (Below.mono (by assumption) ?_) | omega | (simp; omega) | (simp; done)))⟩
  case round =>
    obtain ⟨rfl, hb2⟩ := hrel
    have c0 := (hb2.cell (p := ⟨b, 0, none⟩) hb).trans h0
    have c1 := (hb2.cell (p := ⟨b, 1, none⟩) hb).trans h1
    have hz2 := hb2.size
    go_wp2
    go_ret
    exact ⟨rfl, by (repeat' (first | with_reducible exact Below.refl _ _ | with_reducible assumption | with_reducible refine Below.setCell ?_ ?_ _ | with_reducible refine Below.alloc ?_ ?_ _ | with_reducible refine Below.drew ?_ | with_reducible refine belDrewN ?_ _ | with_reducible refine Below.trans ?_ (Below.mono (by assumption) ?_) | omega | (simp; omega) | (simp; done)))⟩
set_option maxHeartbeats 400000 in
theorem alive_any (w : World) : Calls Tryz.prog 9 #[] w fun e w' => e = .returned (.bool true) ∧ Below w.heap.size w w' := by
  go_enter Tryz.func9, Tryz.ntmps9
  go_wp2_with fail
  refine (have_one _ _ (by simp) (by simp) (by simp)).mono ?_
  rintro e w1 ⟨rfl, hb1⟩
  go_wp2
  go_ret
  exact ⟨rfl, by (repeat' (first | with_reducible exact Below.refl _ _ | with_reducible assumption | with_reducible refine Below.setCell ?_ ?_ _ | with_reducible refine Below.alloc ?_ ?_ _ | with_reducible refine Below.drew ?_ | with_reducible refine belDrewN ?_ _ | with_reducible refine Below.trans ?_ (Below.mono (by assumption) ?_) | omega | (simp; omega) | (simp; done)))⟩
end Go.Proofs.YtajcogpfmpehkaaGreatDoor
