/- Whether a box has no packets: the reference's walk. -/
import Derived.Test.YtkcnbkkgpampaaaDoorFsC
namespace Go.Proofs.YtkcnbkkgpampaaaDoor
open Go.RowKit
theorem bempty_yes {b : Bx} {k : Nat} {xs : List Sp} (hx : b[k]? = some xs) (h : xs.isEmpty = true) : bempty b = true := by
  unfold bempty
  rw [List.any_eq_true]
  exact ⟨_, List.mem_of_getElem? hx, h⟩
theorem bempty_no {b : Bx} (h : ∀ (j : Nat) xs, b[j]? = some xs → xs.isEmpty = false) : bempty b = false := by
  unfold bempty
  rw [List.any_eq_false]
  intro z hz
  obtain ⟨i, hi⟩ := List.getElem?_of_mem hz
  simpa using h i z hi
set_option maxHeartbeats 2000000 in
theorem l10Empty_any {lo : Nat} (b : Bx) (v : Value) (w : World) (hs : Rws lo w v b) :
    Calls Tryd.prog 62 #[.agg #[v]] w fun e w' => e = .returned (.bool (bempty b)) ∧ Below w.heap.size w w' := by
  obtain ⟨a, cap, rfl, hlc, hcm⟩ := hs.form
  unfold maxLen at hcm
  have hal : Below w.heap.size w (w.alloc (.cells #[.slice a b.length cap] 50)) := (Below.refl _ _).alloc (Nat.le_refl _) _
  have q0 : (w.alloc (.cells #[.slice a b.length cap] 50)).cell? ⟨w.heap.size, 0, none⟩ = some (.slice a b.length cap) := by simp
  obtain ⟨W, hW⟩ : ∃ W, w.alloc (.cells #[.slice a b.length cap] 50) = W := ⟨_, rfl⟩
  have qs : w.heap.size < W.heap.size := by rw [← hW]; simp
  rw [hW] at hal q0
  have hsW := hs.below hal
  generalize hn : b.length = n at *
  have HN := Lib.hid hn
  clear hn
  go_enter Tryd.func62, Tryd.ntmps62
  go_wp2_with fail
  go_loopw [3] (fun i wr => ∃ k : Nat, k ≤ n ∧ i = .int .i64 k ∧ Hid (∀ (j : Nat) xs, j < k → b[j]? = some xs → xs.isEmpty = false) ∧ Below W.heap.size W wr) (fun i _ => n - (intOf i).toNat)
  case atStart => exact ⟨0, by omega, rfl, Lib.hid (fun i xs hi => by omega), Below.refl _ _⟩
  case round =>
    obtain ⟨k, hk, rfl, HG, hbr⟩ := hrel
    have hzr := hbr.size
    have e0 := (hbr.cell (p := ⟨w.heap.size, 0, none⟩) qs).trans q0
    have qsr : w.heap.size < wr.heap.size := Nat.lt_of_lt_of_le qs hzr
    have hs2 := hsW.below hbr
    have hwr : Below w.heap.size w wr := hal.trans (hbr.mono (by omega))
    by_cases hlt : k < n
    · have i1 : (k : Int) < (n : Int) := by omega
      have i2 : (0 : Int) ≤ (k : Int) := by omega
      obtain ⟨xs, hx⟩ : ∃ xs, b[k]? = some xs := ⟨_, List.getElem?_eq_getElem (by rw [HN.out]; exact hlt)⟩
      obtain ⟨b', o, sv, rfl, hbl, c0, hsv⟩ := hs2.at hx
      have HX := Lib.hid hx
      obtain ⟨sa, sc, rfl, -, -⟩ := hsv.form
      clear hx hsv
      cases hv : xs.isEmpty
      · have HV := Lib.hid hv
        have hne : ((xs.length : Int) == 0) = false := by
          cases xs with
          | nil => simp at hv
          | cons x xs => simp; omega
        clear hv
        go_wp2
        go_roundw
        case rel =>
          refine ⟨k + 1, by omega, by go_num, Lib.hid (fun j ys hj hy => ?_), hbr⟩
          by_cases e : j = k
          · subst e; rw [HX.out] at hy; cases hy; exact HV.out
          · exact HG.out j ys (by omega) hy
        case measure => simp [intOf]; omega
      · have HE := Lib.hid (bempty_yes HX.out hv)
        obtain rfl : xs = [] := by simpa using hv
        clear hv
        go_wp2
        go_ret
        exact ⟨ret_bool HE.out.symm, hwr⟩
    · have hkn : k = n := by omega
      have HE := Lib.hid (bempty_no (b := b) (fun j xs hj => HG.out j xs (by have := (List.getElem?_eq_some_iff.1 hj).1; rw [HN.out] at this; omega) hj))
      go_wp2
      go_ret
      exact ⟨ret_bool HE.out.symm, hwr⟩
theorem l10Empty_b {lo : Nat} {b : Bx} {v : Value} {w : World} {r : Bool} (hs : Rws lo w v b) (h : bempty b = r) :
    Calls Tryd.prog 62 #[.agg #[v]] w fun e w' => e = .returned (.bool r) ∧ Below w.heap.size w w' := by
  subst h
  exact l10Empty_any b v w hs
end Go.Proofs.YtkcnbkkgpampaaaDoor
