/- Boxes and rules without calls: copies for the program. -/
import Derived.Test.YthflbpoogolebaaDoorFmO
namespace Go.Proofs.YthflbpoogolebaaDoor
open Go.RowKit
def RetRw (b : Bx) (w : World) (e : Ending) (w' : World) : Prop := ∃ v, e = .returned v ∧ OwnRw w' w.heap.size w'.heap.size v b ∧ Below w.heap.size w w'
theorem set_rep {α : Type} (vs : List α) (n k : Nat) (z y : α) (hl : vs.length = k) (hk : k < n) : (vs ++ List.replicate (n - k) z).set k y = (vs ++ [y]) ++ List.replicate (n - (k + 1)) z := by
  rw [List.set_append_right _ _ (by omega), hl, Nat.sub_self, show n - k = (n - (k + 1)) + 1 from by omega, List.replicate_succ, List.set_cons_zero, List.append_assoc]
  rfl
theorem OwnI.mono {α : Type} {e sz : Nat} {enc : α → List Value} {w : World} {lo lo' hi : Nat} {v : Value} {xs : List α} (h : OwnI e sz enc w lo hi v xs) (hl : lo' ≤ lo) : OwnI e sz enc w lo' hi v xs :=
  ⟨OwnSl.mono h.1 hl, h.2.1, Nat.le_trans hl h.2.2⟩
theorem OwnRw.mono {w : World} {lo lo' hi hi' : Nat} {v : Value} {b : Bx} (h : OwnRw w lo hi v b) (hl : lo' ≤ lo) (hh : hi ≤ hi') : OwnRw w lo' hi' v b := by
  obtain ⟨vs, mid, h1, h2⟩ := h
  exact ⟨vs, mid, h1.mono hl, h2.hi hh⟩
theorem OwnFs.mono {w : World} {lo lo' hi hi' : Nat} {v : Value} {b : List Ft} (h : OwnFs w lo hi v b) (hl : lo' ≤ lo) (hh : hi ≤ hi') : OwnFs w lo' hi' v b := by
  obtain ⟨vs, mid, h1, h2⟩ := h
  exact ⟨vs, mid, h1.mono hl, h2.hi hh⟩
def RetBx (b : Bx) (w : World) (e : Ending) (w' : World) : Prop := ∃ v, e = .returned (.agg #[v]) ∧ OwnRw w' w.heap.size w'.heap.size v b ∧ Below w.heap.size w w'
def RetFt (f : Ft) (w : World) (e : Ending) (w' : World) : Prop := ∃ v, e = .returned (.agg #[v, .bool f.acc]) ∧ OwnRw w' w.heap.size w'.heap.size v f.box ∧ Below w.heap.size w w'
end Go.Proofs.YthflbpoogolebaaDoor
