/- Boxes and rules without calls: the laws' own helpers that read. -/
import Derived.Test.YthflbpoogolebaaDoorFmL
namespace Go.Proofs.YthflbpoogolebaaDoor
open Go.RowKit
def sumTo {α : Type} (f : α → Nat) (l : List α) (k : Nat) : Nat := ((l.take k).map f).sum
theorem sumTo_zero {α : Type} (f : α → Nat) (l : List α) : sumTo f l 0 = 0 := by simp [sumTo]
theorem sumTo_succ {α : Type} {f : α → Nat} {l : List α} {k : Nat} {x : α} (hx : l[k]? = some x) : sumTo f l (k + 1) = sumTo f l k + f x := by
  unfold sumTo
  rw [List.take_add_one, hx, List.map_append, List.sum_append]
  simp
theorem sumTo_le {α : Type} (f : α → Nat) (l : List α) : ∀ k d, sumTo f l k ≤ sumTo f l (k + d)
  | k, 0 => Nat.le_refl _
  | k, d + 1 => by
    refine Nat.le_trans (sumTo_le f l k d) ?_
    rw [show k + (d + 1) = (k + d) + 1 from rfl]
    cases hx : l[k + d]? with
    | none =>
      unfold sumTo
      have := List.getElem?_eq_none_iff.1 hx
      rw [List.take_of_length_le this, List.take_of_length_le (by omega)]
      exact Nat.le_refl _
    | some x => rw [sumTo_succ hx]; omega
def bxN (b : Bx) : Nat := b.length + sumTo List.length b b.length
def ftN (fs : List Ft) : Nat := fs.length + sumTo (fun f => bxN f.box) fs fs.length
def szOf (l : Int) (n : Nat) : Int := if l < n then -1 else l - n
theorem szOf_cases (l : Int) (n : Nat) : (szOf l n = -1 ∧ l < n) ∨ (szOf l n = l - n ∧ (n : Int) ≤ l) := by
  unfold szOf
  by_cases h : l < n
  · exact .inl ⟨if_pos h, h⟩
  · exact .inr ⟨if_neg h, by omega⟩
end Go.Proofs.YthflbpoogolebaaDoor
