/- Witnesses: the reference's walks. -/
import Derived.Test.YtajcogpfmpehkaaDoorPaS
import Derived.Test.YtajcogpfmpehkaaDoorFsS
import Derived.Test.YtajcogpfmpehkaaDoorOneP
namespace Go.Proofs.YtajcogpfmpehkaaDoor
open Go.RowKit
/-- The head of set number n. -/
def Hd (w : World) (bb o n : Nat) (q : Int) : Prop := ∃ (s os l k : Nat), w.cell? ⟨bb, o + n, none⟩ = some (.slice (some ⟨s, os, none⟩) l k) ∧ 0 < l ∧ s < w.heap.size ∧ w.cell? ⟨s, os, none⟩ = some (.int .i64 q)
theorem Rws.hd {lo : Nat} {w : World} {bb o cap : Nat} {b : Bx} (h : Rws lo w (.slice (some ⟨bb, o, none⟩) 4 cap) b) {n : Nat} {s : Sp} {ss : List Sp} (hn : b[n]? = some (s :: ss)) : Hd w bb o n s.lo := by
  obtain ⟨b', o', sv, e, _, hc, hs⟩ := h.at hn
  cases e
  obtain ⟨a, c, rfl, -, -⟩ := hs.form
  obtain ⟨q, oq, f1, f2, ha, hq, hx, c0, c1⟩ := hs.at (k := 0) (by simp)
  subst ha
  rw [Nat.zero_mul, Nat.add_zero] at c0
  cases hx
  exact ⟨q, oq, _, c, hc, by simp, hq, c0⟩
/-- What pass p finds. -/
def tpass (fs : List Ft) (r : Bool) (gs : List Ft) (c : Bool) (p : Nat) : Option Pk := ftouch (fpart fs r (decide (p = 0))) (fpart gs c (decide (p = 1)))
def TpI (fs : List Ft) (r : Bool) (gs : List Ft) (c : Bool) (p : Nat) : Prop := ∀ i, i < p → (fparts fs r).isSome = true ∧ (fparts gs c).isSome = true ∧ tpass fs r gs c i = none
theorem TpI.step {fs gs : List Ft} {r c : Bool} {p : Nat} (h : TpI fs r gs c p) (h1 : (fparts fs r).isSome = true) (h2 : (fparts gs c).isSome = true) (h3 : tpass fs r gs c p = none) : TpI fs r gs c (p + 1) := fun i hi => by
  rcases Nat.lt_or_ge i p with h4 | h4
  · exact h i h4
  · rw [show i = p by omega]; exact ⟨h1, h2, h3⟩
theorem TpI.hit {fs gs : List Ft} {r c : Bool} {p : Nat} (h : TpI fs r gs c p) (h1 : (fparts fs r).isSome = true) (h2 : (fparts gs c).isSome = true) (hp : p < 2) {P : Pk} (h3 : tpass fs r gs c p = some P) : fdif fs r gs c = some P := by
  obtain ⟨x, hx⟩ := Option.isSome_iff_exists.1 h1
  obtain ⟨y, hy⟩ := Option.isSome_iff_exists.1 h2
  rw [fdif_wit hx hy]
  unfold fwit
  rcases (by omega : p = 0 ∨ p = 1) with rfl | rfl
  · unfold tpass at h3
    rw [fpart_yes hx, fpart_yes hy] at h3
    rw [show ftouch (psel x true) (psel y false) = some P from h3]
  · have h4 := (h 0 (by omega)).2.2
    unfold tpass at h3 h4
    rw [fpart_yes hx, fpart_yes hy] at h3 h4
    rw [show ftouch (psel x true) (psel y false) = none from h4]
    exact h3
theorem TpI.both {fs gs : List Ft} {r c : Bool} (h : TpI fs r gs c 2) : fdif fs r gs c = none := by
  obtain ⟨h1, h2, h3⟩ := h 0 (by omega)
  obtain ⟨-, -, h4⟩ := h 1 (by omega)
  obtain ⟨x, hx⟩ := Option.isSome_iff_exists.1 h1
  obtain ⟨y, hy⟩ := Option.isSome_iff_exists.1 h2
  unfold tpass at h3 h4
  rw [fpart_yes hx, fpart_yes hy] at h3 h4
  rw [fdif_wit hx hy]
  unfold fwit
  rw [show ftouch (psel x true) (psel y false) = none from h3]
  exact h4
end Go.Proofs.YtajcogpfmpehkaaDoor
