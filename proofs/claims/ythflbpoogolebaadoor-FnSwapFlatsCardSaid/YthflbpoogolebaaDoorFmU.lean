/- Rules without calls: a copy for the program. -/
import Derived.Test.YthflbpoogolebaaDoorFmT
namespace Go.Proofs.YthflbpoogolebaaDoor
open Go.RowKit
theorem sumTo_at {α : Type} {f : α → Nat} {l : List α} {k : Nat} {x : α} (hx : l[k]? = some x) : f x ≤ sumTo f l l.length := by
  have h1 := sumTo_succ (f := f) hx
  have hk := (List.getElem?_eq_some_iff.1 hx).1
  have h2 := sumTo_le f l (k + 1) (l.length - (k + 1))
  rw [show k + 1 + (l.length - (k + 1)) = l.length by omega] at h2
  omega
theorem bxN_bound {b : Bx} {N : Nat} (h : bxN b ≤ N) : b.length ≤ N ∧ ∀ (k : Nat) xs, b[k]? = some xs → xs.length ≤ N := by
  unfold bxN at h
  exact ⟨by omega, fun k xs hx => by have := sumTo_at (f := List.length) hx; omega⟩
theorem ftN_bound {fs : List Ft} {N : Nat} (h : ftN fs ≤ N) : fs.length ≤ N ∧ ∀ (k : Nat) f, fs[k]? = some f → bxN f.box ≤ N := by
  unfold ftN at h
  exact ⟨by omega, fun k f hx => by have := sumTo_at (f := fun f : Ft => bxN f.box) hx; omega⟩
def RetFs (fs : List Ft) (w : World) (e : Ending) (w' : World) : Prop := ∃ v, e = .returned v ∧ OwnFs w' w.heap.size w'.heap.size v fs ∧ Below w.heap.size w w'
theorem OwnFs.form {w : World} {lo hi : Nat} {v : Value} {fs : List Ft} (h : OwnFs w lo hi v fs) : ∃ a cap, v = .slice a fs.length cap ∧ fs.length ≤ cap ∧ cap ≤ maxLen := Fts.form h.fts
end Go.Proofs.YthflbpoogolebaaDoor
