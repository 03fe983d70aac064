/- Which rule decides: the reference's DecidedBy. -/
import Derived.Test.YtkcnbkkgpampaaaDoorFmD
namespace Go.Proofs.YtkcnbkkgpampaaaDoor
open Go.RowKit
theorem fvalid_at {fs : List Ft} (h : fvalid fs = true) {k : Nat} {f : Ft} (hx : fs[k]? = some f) : bvalid f.box = true := by
  unfold fvalid at h
  rw [Bool.and_eq_true, List.all_eq_true] at h
  exact h.2 f (List.mem_of_getElem? hx)
set_option maxHeartbeats 2000000 in
theorem specDB_any {lo : Nat} (fs : List Ft) (v : Value) (p1 p2 p3 p4 : Int) (w : World) (hs : Fts lo w v fs) :
    Calls Tryd.prog 20 #[v, .agg #[.int .i64 p1, .int .i64 p2, .int .i64 p3, .int .i64 p4]] w fun e w' => e = .returned (.int .i64 (dby fs ⟨p1, p2, p3, p4⟩)) ∧ Below w.heap.size w w' := by
  obtain ⟨a, cap, rfl, hlc, hcm⟩ := hs.form
  unfold maxLen at hcm
  generalize hn : fs.length = n at *
  have HN := Lib.hid hn
  clear hn
  obtain ⟨fv, hfv⟩ : ∃ fv, fvalid fs = fv := ⟨_, rfl⟩
  have HFV := Lib.hid hfv
  have hal : Below w.heap.size w (w.alloc (.cells #[.int .i64 p1, .int .i64 p2, .int .i64 p3, .int .i64 p4] 32)) := (Below.refl _ _).alloc (Nat.le_refl _) _
  obtain ⟨W, hW⟩ : ∃ W, w.alloc (.cells #[.int .i64 p1, .int .i64 p2, .int .i64 p3, .int .i64 p4] 32) = W := ⟨_, rfl⟩
  have r0 : W.cell? ⟨w.heap.size, 0, none⟩ = some (.int .i64 p1) := by rw [← hW]; simp
  have r1 : W.cell? ⟨w.heap.size, 1, none⟩ = some (.int .i64 p2) := by rw [← hW]; simp
  have r2 : W.cell? ⟨w.heap.size, 2, none⟩ = some (.int .i64 p3) := by rw [← hW]; simp
  have r3 : W.cell? ⟨w.heap.size, 3, none⟩ = some (.int .i64 p4) := by rw [← hW]; simp
  have qs : w.heap.size < W.heap.size := by rw [← hW]; simp
  rw [hW] at hal
  go_enter Tryd.func20, Tryd.ntmps20
  go_wp2_with fail
  go_loopw [5] (fun i wr => ∃ k : Nat, k ≤ n ∧ i = .int .i64 k ∧ (∀ (i : Nat) g, i < k → fs[i]? = some g → (Pk.ok ⟨p1, p2, p3, p4⟩ && bhas g.box ⟨p1, p2, p3, p4⟩) = false) ∧ (fv = false → k = 0) ∧ Below W.heap.size W wr) (fun i _ => n - (intOf i).toNat)
  case atStart => exact ⟨0, by omega, rfl, fun i g hi => by omega, fun _ => rfl, Below.refl _ _⟩
  case round =>
    obtain ⟨k, hk, rfl, hG, hk0, hbW⟩ := hrel
    have hbr : Below w.heap.size w wr := hal.trans (hbW.mono hal.size)
    have hzW := hbW.size
    have HG := Lib.hid hG
    clear hG
    have hzr := hbr.size
    have hs2 := hs.below hbr
    have HNO := Lib.hid (show k = n → dby fs ⟨p1, p2, p3, p4⟩ = -1 from fun hkn => by
      unfold dby
      cases hp : Pk.ok ⟨p1, p2, p3, p4⟩
      · simp
      · cases fvalid fs
        · simp
        · simp only [Bool.and_self, if_true]
          refine fwith_none fs 0 (fun i g hg => ?_)
          have := HG.out i g (by rw [hkn, ← HN.out]; exact (List.getElem?_eq_some_iff.1 hg).1) hg
          rwa [hp, Bool.true_and] at this)
    by_cases hlt : k < n
    · have i1 : (k : Int) < (n : Int) := by omega
      have i2 : (0 : Int) ≤ (k : Int) := by omega
      go_wp2_with fail
      refine (specFV_b hs2 hfv).mono ?_
      rintro e w1 ⟨rfl, hb1⟩
      have hw1 : Below w.heap.size w w1 := hbr.trans (hb1.mono hzr)
      have hW1 : Below W.heap.size W w1 := hbW.trans (hb1.mono hzW)
      have hs1 := hs2.below hb1
      have e0 := (hW1.cell (p := ⟨w.heap.size, 0, none⟩) qs).trans r0
      have e1 := (hW1.cell (p := ⟨w.heap.size, 1, none⟩) qs).trans r1
      have e2 := (hW1.cell (p := ⟨w.heap.size, 2, none⟩) qs).trans r2
      have e3 := (hW1.cell (p := ⟨w.heap.size, 3, none⟩) qs).trans r3
      have qs1 : w.heap.size < w1.heap.size := Nat.lt_of_lt_of_le qs hW1.size
      clear hb1 hs2 hfv
      cases fv
      · have HE := Lib.hid (show dby fs ⟨p1, p2, p3, p4⟩ = -1 by unfold dby; rw [HFV.out]; simp)
        go_wp2
        go_ret
        exact ⟨ret_int HE.out.symm, hw1⟩
      · obtain ⟨f, hx⟩ : ∃ f, fs[k]? = some f := ⟨_, List.getElem?_eq_getElem (by rw [HN.out]; exact hlt)⟩
        obtain ⟨b', o, sv, rfl, hbl, c0, c1, hsv⟩ := hs1.at hx
        have HX := Lib.hid hx
        have HSV := Lib.hid hsv
        have HBV := Lib.hid (fvalid_at HFV.out hx)
        clear hx hsv c1
        obtain ⟨r, hr⟩ : ∃ r, (Pk.ok ⟨p1, p2, p3, p4⟩ && bhas f.box ⟨p1, p2, p3, p4⟩) = r := ⟨_, rfl⟩
        have hr2 : (bvalid f.box && Pk.ok ⟨p1, p2, p3, p4⟩ && bhas f.box ⟨p1, p2, p3, p4⟩) = r := by rw [HBV.out, Bool.true_and]; exact hr
        have HR := Lib.hid hr
        clear hr
        cases r
        · go_wp2_with fail
          refine wp_region_over (by kernel_rfl) (by kernel_rfl) (fun ov => ?_); have ov0 := fun x => ov x (w.heap.size) (by (try simp) <;> omega); have ov1 := fun x => ov x (b') (by (try simp) <;> omega); clear ov; (iterate 9 (iterate 8 (try go_big_quiet_step (first | (go_at_call 69; with_reducible exact callsOver (specBH_b (HSV.out.below (over_below _ _)) hr2)))))); refine wpQuiet_nil ?_; intro w2 hw9; have hb_w2 := below_over hw9; clear hw9 ov0 ov1
          have hw2 : Below w.heap.size w w2 := hw1.trans (hb_w2.mono hw1.size)
          have hW2 : Below W.heap.size W w2 := hW1.trans (hb_w2.mono hW1.size)
          clear hb_w2
          go_wp2
          go_roundw
          case rel =>
            refine ⟨k + 1, by omega, by go_num, fun i g hi hg => ?_, (fun h => by cases h), hW2⟩
            by_cases e : i = k
            · subst e; have := HX.out; rw [hg] at this; cases this; exact HR.out
            · exact HG.out i g (by omega) hg
          case measure => simp [intOf]; omega
        · have HE := Lib.hid (show dby fs ⟨p1, p2, p3, p4⟩ = (k : Int) by
            have h1 := HR.out
            rw [Bool.and_eq_true] at h1
            unfold dby
            rw [HFV.out, h1.1]
            simp only [Bool.and_self, if_true]
            rw [fwith_hit fs k 0 f (fun i g hi hg => by have := HG.out i g hi hg; rwa [h1.1, Bool.true_and] at this) HX.out h1.2, Nat.zero_add])
          go_wp2_with fail
          refine wp_region_over (by kernel_rfl) (by kernel_rfl) (fun ov => ?_); have ov0 := fun x => ov x (w.heap.size) (by (try simp) <;> omega); have ov1 := fun x => ov x (b') (by (try simp) <;> omega); clear ov; (iterate 9 (iterate 8 (try go_big_quiet_step (first | (go_at_call 69; with_reducible exact callsOver (specBH_b (HSV.out.below (over_below _ _)) hr2)))))); refine wpQuiet_nil ?_; intro w2 hw9; have hb_w2 := below_over hw9; clear hw9 ov0 ov1
          have hw2 : Below w.heap.size w w2 := hw1.trans (hb_w2.mono hw1.size)
          have hW2 : Below W.heap.size W w2 := hW1.trans (hb_w2.mono hW1.size)
          clear hb_w2
          go_wp2
          go_ret
          exact ⟨ret_int HE.out.symm, hw2⟩
    · have HE := Lib.hid (HNO.out (by omega))
      go_wp2
      go_ret
      exact ⟨ret_int HE.out.symm, hbr⟩
end Go.Proofs.YtkcnbkkgpampaaaDoor
