/- The law FnMergeSelf: the walk. -/
import Derived.Test.YtajcogpfmpehkaaDoorTwD
import Derived.Test.YtajcogpfmpehkaaDoorBmX
import Derived.Test.YtajcogpfmpehkaaDoorMbMf
import Derived.Test.YtajcogpfmpehkaaDoorMbW
import Derived.Test.YtajcogpfmpehkaaDoorDxAJ
namespace Go.Proofs.YtajcogpfmpehkaaDoor
open Go.RowKit
/-- A cell of a block of before. -/
structure Cl (w : World) (p : Nat) (v : Value) : Prop where
  lt : p < w.heap.size
  c : w.cell? ⟨p, 0, none⟩ = some v
theorem Cl.bel {w w' : World} {p : Nat} {v : Value} (h : Cl w p v) (hb : Below w.heap.size w w') : Cl w' p v := ⟨Nat.lt_of_lt_of_le h.lt hb.size, (hb.cell (p := ⟨p, 0, none⟩) h.lt).trans h.c⟩
theorem Cl.new (w : World) (v : Value) (ty : TypeId) : Cl (w.alloc (.cells #[v] ty)) w.heap.size v := ⟨by simp, by simp⟩
theorem implMB_s {lo lo' : Nat} {a b M : Bx} {R : Option Bx} {q : Bool} {u v : Value} {w : World} (hs : Rws lo w u a) (hu : Rws lo' w v b) (ht : Tab w) (h : mergeV a b = R) (hq : R.isSome = q) (hm : R.getD [] = M) :
    Calls Tryd.prog 23 #[.agg #[u], .agg #[v]] w fun e w' => ∃ z, e = .returned (.tuple #[.agg #[z], .bool q]) ∧ Rws 0 w' z M ∧ Below w.heap.size w w' := by
  subst hq
  subst hm
  refine (implMB_e hs hu ht h).mono ?_
  rintro e w' ⟨z, rfl, h1, h2⟩
  exact ⟨z, rfl, (GRw.rws h1).mono (Nat.zero_le _), h2⟩
theorem specMB_s {lo lo' : Nat} {a b M : Bx} {R : Option Bx} {q : Bool} {u v : Value} {w : World} (hs : Rws lo w u a) (hu : Rws lo' w v b) (h : mergeV a b = R) (hq : R.isSome = q) (hm : R.getD [] = M) :
    Calls Tryd.prog 24 #[.agg #[u], .agg #[v]] w fun e w' => ∃ z, e = .returned (.tuple #[.agg #[z], .bool q]) ∧ Rws 0 w' z M ∧ Below w.heap.size w w' := by
  subst hq
  subst hm
  exact specMB_e hs hu h
theorem mergeV_some {a b c : Bx} (h : mergeV a b = some c) : bvalid a = true ∧ bvalid b = true ∧ mergeB a b = some c := by
  unfold mergeV at h
  split at h
  · rename_i h2
    rw [Bool.and_eq_true] at h2
    exact ⟨h2.1, h2.2, h⟩
  · cases h
end Go.Proofs.YtajcogpfmpehkaaDoor
