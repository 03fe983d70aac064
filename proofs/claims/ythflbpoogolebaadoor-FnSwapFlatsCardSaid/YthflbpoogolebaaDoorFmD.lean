/- Which rule decides: the reference's walk. -/
import Derived.Test.YthflbpoogolebaaDoorFmF
namespace Go.Proofs.YthflbpoogolebaaDoor
open Go.RowKit
def bhas (b : Bx) (p : Pk) : Bool := (List.range 4).all fun n => shas (b.getD n []) (p.fld n)
theorem bhas_iff {b : Bx} {p : Pk} : bhas b p = true ↔ ∀ n, n < 4 → shas (b.getD n []) (p.fld n) = true := by
  unfold bhas
  rw [List.all_eq_true]
  exact ⟨fun h n hn => h n (List.mem_range.2 hn), fun h n hn => h n (List.mem_range.1 hn)⟩
theorem bhas_no {b : Bx} {p : Pk} {n : Nat} {xs : List Sp} (hn : n < 4) (hx : b[n]? = some xs) (h : shas xs (p.fld n) = false) : bhas b p = false := by
  rw [← Bool.not_eq_true, bhas_iff]
  intro g
  have := g n hn
  rw [List.getD_eq_getElem?_getD, hx] at this
  simp only [Option.getD_some] at this
  rw [h] at this; cases this
def BH (b : Bx) (p : Pk) (k : Nat) : Prop := ∀ n, n < k → shas (b.getD n []) (p.fld n) = true
theorem BH.step {b : Bx} {p : Pk} {n : Nat} {xs : List Sp} (h : BH b p n) (hx : b[n]? = some xs) (hs : shas xs (p.fld n) = true) : BH b p (n + 1) := by
  intro i hi
  by_cases e : i = n
  · subst e
    rw [List.getD_eq_getElem?_getD, hx]
    exact hs
  · exact h i (by omega)
theorem bhas_yes {b : Bx} {p : Pk} (h : BH b p 4) : bhas b p = true := bhas_iff.2 h
theorem bvalid_four {b : Bx} (h : bvalid b = true) : b.length = 4 ∧ BOk b 4 := by
  unfold bvalid at h
  exact of_decide_eq_true h
/-- The number of the first rule that has the packet. -/
def fwith : List Ft → Pk → Nat → Int
  | [], _, _ => -1
  | f :: fs, p, k => if bhas f.box p then (k : Int) else fwith fs p (k + 1)
theorem fwith_hit {p : Pk} : ∀ (fs : List Ft) (k m : Nat) (f : Ft), (∀ (i : Nat) g, i < k → fs[i]? = some g → bhas g.box p = false) → fs[k]? = some f → bhas f.box p = true → fwith fs p m = ((m + k : Nat) : Int)
  | [], _, _, _, _, h, _ => by simp at h
  | g :: fs, 0, m, f, _, h, hf => by
    simp at h
    subst h
    simp [fwith, hf]
  | g :: fs, k + 1, m, f, h0, h, hf => by
    have hg := h0 0 g (by omega) rfl
    simp only [fwith, hg, Bool.false_eq_true, if_false]
    rw [fwith_hit fs k (m + 1) f (fun i x hi hx => h0 (i + 1) x (by omega) (by simpa using hx)) (by simpa using h) hf]
    congr 1
    omega
theorem fwith_none {p : Pk} : ∀ (fs : List Ft) (m : Nat), (∀ (i : Nat) g, fs[i]? = some g → bhas g.box p = false) → fwith fs p m = -1
  | [], _, _ => rfl
  | g :: fs, m, h => by
    have hg := h 0 g rfl
    simp only [fwith, hg, Bool.false_eq_true, if_false]
    exact fwith_none fs (m + 1) (fun i x hx => h (i + 1) x (by simpa using hx))
def dby (fs : List Ft) (p : Pk) : Int := if fvalid fs && p.ok then fwith fs p 0 else -1
end Go.Proofs.YthflbpoogolebaaDoor
