/- Validity of boxes and rules; the walks of the program and the reference. -/
import Derived.Test.YtfcbbahlhjdefaaGreatDoorFmA
import Derived.Laws.Rows
import Derived.Test.YtfcbbahlhjdefaaGreatDoorFmC
import Derived.Deep.RegionLaw
import Derived.Deep.AppendLies
namespace Go.Proofs.YtfcbbahlhjdefaaGreatDoor
open Go.RowKit
def bhas (b : Bx) (p : Pk) : Bool := (List.range 4).all fun n => shas (b.getD n []) (p.fld n)
def BH (b : Bx) (p : Pk) (k : Nat) : Prop := ∀ n, n < k → shas (b.getD n []) (p.fld n) = true
theorem BH.step {b : Bx} {p : Pk} {n : Nat} {xs : List Sp} (h : BH b p n) (hx : b[n]? = some xs) (hs : shas xs (p.fld n) = true) : BH b p (n + 1) := by
  intro i hi
  by_cases e : i = n
  · subst e
    rw [List.getD_eq_getElem?_getD, hx]
    exact hs
  · exact h i (by omega)
theorem bvalid_four {b : Bx} (h : bvalid b = true) : b.length = 4 ∧ BOk b 4 := by
  unfold bvalid at h
  exact of_decide_eq_true h
/-- The number of the first rule that has the packet. -/
def fwith : List Ft → Pk → Nat → Int
  | [], _, _ => -1
  | f :: fs, p, k => if bhas f.box p then (k : Int) else fwith fs p (k + 1)
def dby (fs : List Ft) (p : Pk) : Int := if fvalid fs && p.ok then fwith fs p 0 else -1
theorem fvalid_at {fs : List Ft} (h : fvalid fs = true) {k : Nat} {f : Ft} (hx : fs[k]? = some f) : bvalid f.box = true := by
  unfold fvalid at h
  rw [Bool.and_eq_true, List.all_eq_true] at h
  exact h.2 f (List.mem_of_getElem? hx)
theorem infoFl : (Tryz.prog.info? 113).map (fun i => (i.zero, i.size, i.bytes)) = some (some (.agg #[.slice none 0 0, .slice none 0 0, .slice none 0 0, .slice none 0 0, .bool false]), 5, 104) := by kernel_rfl
end Go.Proofs.YtfcbbahlhjdefaaGreatDoor
