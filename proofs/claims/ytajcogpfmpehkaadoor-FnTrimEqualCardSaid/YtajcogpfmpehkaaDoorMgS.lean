/- MergeFlats: the reference's walk, and the program's. -/
import Derived.Test.YtajcogpfmpehkaaDoorMgFD
import Derived.Test.YtajcogpfmpehkaaDoorOneP
import Derived.Test.YtajcogpfmpehkaaDoorMbW
import Derived.Test.YtajcogpfmpehkaaDoorFtW
import Derived.Test.YtajcogpfmpehkaaDoorRgX
import Derived.Test.YtajcogpfmpehkaaDoorCuW
import Derived.Test.YtajcogpfmpehkaaDoorLvS
namespace Go.Proofs.YtajcogpfmpehkaaDoor
open Go.RowKit
/-- Where the first pair lies. -/
def mpos (fs : List Ft) : Int := match mfirst fs with
  | some k => (k : Int)
  | none => -1
/-- Rows of rules in memory. -/
def LitRF (z : RF) (w : World) (v : Value) : Prop := ∃ g, v = .slice (some ⟨g, 0, none⟩) 1 1 ∧ g < w.heap.size ∧ CellsAt w g 0 (RF.enc z)
def RFs (w : World) (rs : List RF) (L : List Ft) : Prop := All2 (fun (r : RF) (f : Ft) => Rws 0 w r.s f.box ∧ r.acc = f.acc) rs L
theorem RFs.below {w w' : World} {rs : List RF} {L : List Ft} (h : RFs w rs L) (hb : Below w.heap.size w w') : RFs w' rs L := h.mono (fun _ _ g => ⟨g.1.below hb, g.2⟩)
theorem RFs.one {w : World} {rs : List RF} {L : List Ft} (h : RFs w rs L) : ∀ u ∈ rs.flatMap RF.enc, u.oneCell' = true := fun u hu => by
  obtain ⟨r, hr, hu⟩ := List.mem_flatMap.1 hu
  obtain ⟨k, hk⟩ := List.getElem?_of_mem hr
  obtain ⟨f, hf⟩ : ∃ f, L[k]? = some f := ⟨_, List.getElem?_eq_getElem (by rw [← h.1]; exact (List.getElem?_eq_some_iff.1 hk).1)⟩
  obtain ⟨a, c, he, -, -⟩ := (h.2 k r f hk hf).1.form
  simp only [RF.enc, List.mem_cons, List.not_mem_nil, or_false] at hu
  rcases hu with rfl | rfl
  · rw [he]; rfl
  · rfl
theorem RFs.put {w : World} {rs : List RF} {L : List Ft} (h : RFs w rs L) {k : Nat} {r : RF} {x : Ft} (hk : k ≤ L.length) (hr : Rws 0 w r.s x.box ∧ r.acc = x.acc) : RFs w (rs.take k ++ [r] ++ rs.drop (k + 2)) (mput L k x) := by
  have hl := h.1
  unfold mput
  rw [List.append_assoc, List.singleton_append]
  refine ⟨by simp [hl], fun j y z hy hz => ?_⟩
  have e1 : (rs.take k).length = k := by rw [List.length_take]; omega
  have e2 : (L.take k).length = k := by rw [List.length_take]; omega
  rcases Nat.lt_trichotomy j k with hj | hj | hj
  · rw [List.getElem?_append_left (by omega), List.getElem?_take_of_lt hj] at hy hz
    exact h.2 j y z hy hz
  · subst hj
    rw [List.getElem?_append_right (by omega), e1, Nat.sub_self] at hy
    rw [List.getElem?_append_right (by omega), e2, Nat.sub_self] at hz
    cases hy; cases hz
    exact hr
  · obtain ⟨i, rfl⟩ : ∃ i, j = k + (i + 1) := ⟨j - k - 1, by omega⟩
    rw [List.getElem?_append_right (by omega), e1, Nat.add_sub_cancel_left, List.getElem?_cons_succ, List.getElem?_drop] at hy
    rw [List.getElem?_append_right (by omega), e2, Nat.add_sub_cancel_left, List.getElem?_cons_succ, List.getElem?_drop] at hz
    exact h.2 _ y z hy hz
end Go.Proofs.YtajcogpfmpehkaaDoor
