/- Validity of boxes and rules; the walks of the program and the reference. -/
import Derived.Test.YtajcogpfmpehkaaDoorFmA
import Derived.Laws.Rows
import Derived.Test.YtajcogpfmpehkaaDoorFmC
import Derived.Deep.RegionLaw
import Derived.Deep.AppendLies
namespace Go.Proofs.YtajcogpfmpehkaaDoor
open Go.RowKit
def bhas (b : Bx) (p : Pk) : Bool := (List.range 4).all fun n => shas (b.getD n []) (p.fld n)
theorem bhas_iff {b : Bx} {p : Pk} : bhas b p = true ↔ ∀ n, n < 4 → shas (b.getD n []) (p.fld n) = true := by
  unfold bhas
  rw [List.all_eq_true]
  exact ⟨fun h n hn => h n (List.mem_range.2 hn), fun h n hn => h n (List.mem_range.1 hn)⟩
def BH (b : Bx) (p : Pk) (k : Nat) : Prop := ∀ n, n < k → shas (b.getD n []) (p.fld n) = true
theorem BH.step {b : Bx} {p : Pk} {n : Nat} {xs : List Sp} (h : BH b p n) (hx : b[n]? = some xs) (hs : shas xs (p.fld n) = true) : BH b p (n + 1) := by
  intro i hi
  by_cases e : i = n
  · subst e
    rw [List.getD_eq_getElem?_getD, hx]
    exact hs
  · exact h i (by omega)
theorem bvalid_four {b : Bx} (h : bvalid b = true) : b.length = 4 ∧ BOk b 4 := by
  unfold bvalid at h
  exact of_decide_eq_true h
/-- The number of the first rule that has the packet. -/
def fwith : List Ft → Pk → Nat → Int
  | [], _, _ => -1
  | f :: fs, p, k => if bhas f.box p then (k : Int) else fwith fs p (k + 1)
def dby (fs : List Ft) (p : Pk) : Int := if fvalid fs && p.ok then fwith fs p 0 else -1
set_option maxHeartbeats 2000000 in
set_option maxRecDepth 100000 in
theorem sidesOf_any {lo : Nat} (bx : Bx) (v : Value) (w0 w : World) (hs : Rws lo w0 v bx) (hb0 : Below w0.heap.size w0 w) (h4 : bx.length = 4) :
    Calls Tryd.prog 57 #[.agg #[v]] w fun e w' => ∃ a0 n0 p0 a1 n1 p1 a2 n2 p2 a3 n3 p3, e = .returned (.agg #[.slice a0 n0 p0, .slice a1 n1 p1, .slice a2 n2 p2, .slice a3 n3 p3]) ∧ All2 (Sps lo w0) [.slice a0 n0 p0, .slice a1 n1 p1, .slice a2 n2 p2, .slice a3 n3 p3] bx ∧ Below w.heap.size w w' := by
  obtain ⟨a, cap, rfl, hlc, hcm⟩ := hs.form
  rw [h4] at hs hlc ⊢
  match bx, h4 with
  | [x0, x1, x2, x3], _ =>
    obtain ⟨b, o, v0, rfl, hbl, c0, s0⟩ := hs.at (k := 0) (xs := x0) rfl
    obtain ⟨b', o', v1, he, -, c1, s1⟩ := hs.at (k := 1) (xs := x1) rfl
    obtain ⟨rfl, rfl, -⟩ := Addr.mk.inj (Option.some.inj he)
    obtain ⟨b', o', v2, he, -, c2, s2⟩ := hs.at (k := 2) (xs := x2) rfl
    obtain ⟨rfl, rfl, -⟩ := Addr.mk.inj (Option.some.inj he)
    obtain ⟨b', o', v3, he, -, c3, s3⟩ := hs.at (k := 3) (xs := x3) rfl
    obtain ⟨rfl, rfl, -⟩ := Addr.mk.inj (Option.some.inj he)
    have hall : All2 (Sps lo w0) [v0, v1, v2, v3] [x0, x1, x2, x3] := ((All2.nil.snoc s0).snoc s1).snoc s2 |>.snoc s3
    obtain ⟨a0, n0, p0, rfl, -⟩ : ∃ a n c, v0 = .slice a n c ∧ True := let ⟨a, c, h, _⟩ := s0.form; ⟨a, _, c, h, trivial⟩
    obtain ⟨a1, n1, p1, rfl, -⟩ : ∃ a n c, v1 = .slice a n c ∧ True := let ⟨a, c, h, _⟩ := s1.form; ⟨a, _, c, h, trivial⟩
    obtain ⟨a2, n2, p2, rfl, -⟩ : ∃ a n c, v2 = .slice a n c ∧ True := let ⟨a, c, h, _⟩ := s2.form; ⟨a, _, c, h, trivial⟩
    obtain ⟨a3, n3, p3, rfl, -⟩ : ∃ a n c, v3 = .slice a n c ∧ True := let ⟨a, c, h, _⟩ := s3.form; ⟨a, _, c, h, trivial⟩
    have hx : ∀ w : World, (Instr.arrayAt 89 (.slice (some ⟨b, o, none⟩) 4 cap)).run Tryd.prog w = .ok (.pointer (some ⟨b, o, none⟩)) w := fun w => by kernel_rfl
    have HA := Lib.hid hall
    rw [Nat.add_zero] at c0
    replace c0 := (hb0.cell (p := ⟨b, o, none⟩) hbl).trans c0
    replace c1 := (hb0.cell (p := ⟨b, o + 1, none⟩) hbl).trans c1
    replace c2 := (hb0.cell (p := ⟨b, o + 2, none⟩) hbl).trans c2
    replace c3 := (hb0.cell (p := ⟨b, o + 3, none⟩) hbl).trans c3
    replace hbl := Nat.lt_of_lt_of_le hbl hb0.size
    clear hb0
    clear hall hs s0 s1 s2 s3
    go_enter Tryd.func57, Tryd.ntmps57
    go_wp2_with fail
    refine bodyPost_ret (v := .agg #[.slice a0 n0 p0, .slice a1 n1 p1, .slice a2 n2 p2, .slice a3 n3 p3]) (results_cell_row rfl _ _ (w.heap.size + 1) 89 #[.slice a0 n0 p0, .slice a1 n1 p1, .slice a2 n2 p2, .slice a3 n3 p3] _ _ rfl (heap_alloc2_new w _ _) Tryd.underlying89 rfl (by kernel_rfl)) rfl ?_
    exact ⟨_, _, _, _, _, _, _, _, _, _, _, _, rfl, HA.out, by (repeat' (first | with_reducible exact Below.refl _ _ | with_reducible assumption | with_reducible refine Below.setCell ?_ ?_ _ | with_reducible refine Below.alloc ?_ ?_ _ | with_reducible refine Below.drew ?_ | with_reducible refine belDrewN ?_ _ | with_reducible refine Below.trans ?_ (Below.mono (by assumption) ?_) | omega | (simp; omega) | (simp; done)))⟩
end Go.Proofs.YtajcogpfmpehkaaDoor
