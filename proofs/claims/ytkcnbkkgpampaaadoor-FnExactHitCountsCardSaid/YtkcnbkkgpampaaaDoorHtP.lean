/- Counts of hits: plain definitions and laws. -/
import Derived.Test.YtkcnbkkgpampaaaDoorFnL
import Derived.Test.YtkcnbkkgpampaaaDoorFsP
namespace Go.Proofs.YtkcnbkkgpampaaaDoor
open Go.RowKit
def hinc (c : List Int) (i : Nat) : List Int := c.set i (c.getD i 0 + 1)
def hidx (fs : List Ft) (p : Pk) : Nat := if fwith fs p 0 < 0 then fs.length else (fwith fs p 0).toNat
def hits (fs : List Ft) (ps : List Pk) : Nat → List Int
  | 0 => List.replicate (fs.length + 1) 0
  | k + 1 => match ps[k]? with
    | some p => hinc (hits fs ps k) (hidx fs p)
    | none => hits fs ps k
def pvalid (ps : List Pk) : Bool := decide (ps.length ≤ 50) && ps.all Pk.ok
def hcount (fs : List Ft) (ps : List Pk) : List Int := if fvalid fs && pvalid ps then hits fs ps ps.length else []
theorem hits_succ {fs : List Ft} {ps : List Pk} {k : Nat} {p : Pk} (h : ps[k]? = some p) : hits fs ps (k + 1) = hinc (hits fs ps k) (hidx fs p) := by
  conv => lhs; unfold hits
  rw [h]
theorem hits_len (fs : List Ft) (ps : List Pk) : ∀ k, (hits fs ps k).length = fs.length + 1
  | 0 => by simp [hits]
  | k + 1 => by
    have := hits_len fs ps k
    unfold hits
    split
    · simp [hinc, this]
    · exact this
theorem hits_bound (fs : List Ft) (ps : List Pk) : ∀ (k i : Nat) (x : Int), (hits fs ps k)[i]? = some x → 0 ≤ x ∧ x ≤ k
  | 0, i, x, h => by
    unfold hits at h
    rw [List.getElem?_replicate] at h
    split at h
    · cases h; omega
    · cases h
  | k + 1, i, x, h => by
    unfold hits at h
    split at h
    · rename_i p hp
      unfold hinc at h
      rw [List.getElem?_set] at h
      split at h
      · split at h
        · cases h
          rename_i hlt
          have := hits_bound fs ps k (hidx fs p) ((hits fs ps k).getD (hidx fs p) 0) (by
            rw [List.getD_eq_getElem?_getD, List.getElem?_eq_getElem hlt]; simp)
          omega
        · cases h
      · have := hits_bound fs ps k i x h
        omega
    · have := hits_bound fs ps k i x h
      omega
theorem fwith_range : ∀ (fs : List Ft) (p : Pk) (k : Nat), fwith fs p k = -1 ∨ ((k : Int) ≤ fwith fs p k ∧ fwith fs p k < (k : Int) + fs.length)
  | [], p, k => by simp [fwith]
  | f :: fs, p, k => by
    have := fwith_range fs p (k + 1)
    unfold fwith
    split
    · right; simp; omega
    · rcases this with h | ⟨h1, h2⟩
      · left; exact h
      · right; simp only [List.length_cons]; omega
theorem hidx_lt (fs : List Ft) (p : Pk) : hidx fs p ≤ fs.length := by
  unfold hidx
  split
  · exact Nat.le_refl _
  · rcases fwith_range fs p 0 with h | h <;> omega
theorem pvalid_at {ps : List Pk} (h : pvalid ps = true) {k : Nat} {p : Pk} (hx : ps[k]? = some p) : Pk.ok p = true := by
  unfold pvalid at h
  rw [Bool.and_eq_true, List.all_eq_true] at h
  exact h.2 p (List.mem_of_getElem? hx)
theorem pvalid_50 {ps : List Pk} (h : pvalid ps = true) : ps.length ≤ 50 := by
  unfold pvalid at h
  rw [Bool.and_eq_true] at h
  exact of_decide_eq_true h.1
theorem pvalid_no {ps : List Pk} {k : Nat} {p : Pk} (hx : ps[k]? = some p) (h : Pk.ok p = false) : pvalid ps = false := by
  unfold pvalid
  rw [Bool.and_eq_false_iff]
  right
  rw [List.all_eq_false]
  exact ⟨p, List.mem_of_getElem? hx, by simp [h]⟩
theorem pvalid_big {ps : List Pk} (h : 50 < ps.length) : pvalid ps = false := by
  unfold pvalid
  rw [decide_eq_false (by omega)]
  rfl
theorem pvalid_yes {ps : List Pk} (h : ps.length ≤ 50) (ha : ∀ (k : Nat) p, ps[k]? = some p → Pk.ok p = true) : pvalid ps = true := by
  unfold pvalid
  rw [Bool.and_eq_true, List.all_eq_true]
  refine ⟨decide_eq_true h, fun p hp => ?_⟩
  obtain ⟨k, hk⟩ := List.getElem?_of_mem hp
  exact ha k p hk
end Go.Proofs.YtkcnbkkgpampaaaDoor
