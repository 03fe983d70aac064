/- Tables in order. -/
import Derived.Test.YtfnfpekjjmejnaaTbB
namespace Go.Proofs.Ytfnfpekjjmejnaa
open Go.RowKit
theorem TGood.step {xs : List En} {k : Nat} {x : En} (h : TGood xs k) (hx : xs[k]? = some x) (hok : x.ok = true) (hl : ∀ (j : Nat) y, k = j + 1 → xs[j]? = some y → y.w.lt x.w = true) : TGood xs (k + 1) := by
  intro i z hi hz
  rcases (by omega : i < k ∨ i = k) with h1 | rfl
  · exact h i z h1 hz
  · rw [hx] at hz; cases hz; exact ⟨hok, hl⟩
set_option maxHeartbeats 2000000 in
theorem specTV_any (xs : List En) (v : Value) (w : World) (hs : Ens w v xs) :
    Calls Try.prog 16 #[v] w fun e w' => e = .returned (.bool (tvalid xs)) ∧ Below w.heap.size w w' := by
  obtain ⟨a, cap, rfl, hlc, hcm, -⟩ := id hs
  unfold maxLen at hcm
  generalize hn : xs.length = n at *
  have HN := Lib.hid hn
  clear hn
  go_enter Try.func16, Try.ntmps16
  go_wp2_with fail
  go_loopw [3] (fun i wr => ∃ k : Nat, k ≤ n ∧ i = .int .i64 k ∧ TGood xs k ∧ Below w.heap.size w wr) (fun i _ => n - (intOf i).toNat)
  case atStart => exact ⟨0, by omega, rfl, fun i x hi => by omega, by (repeat' (first | with_reducible exact Below.refl _ _ | with_reducible assumption | with_reducible refine Below.setCell ?_ ?_ _ | with_reducible refine Below.alloc ?_ ?_ _ | with_reducible refine Below.drew ?_ | with_reducible refine belDrewN ?_ _ | with_reducible refine Below.trans ?_ (Below.mono (by assumption) ?_) | omega | (simp; omega) | (simp; done)))⟩
  case round =>
    obtain ⟨k, hk, rfl, hg, hb2⟩ := hrel
    have HG := Lib.hid hg; clear hg
    have hs2 := Lib.hid (hs.below hb2)
    have hz2 := hb2.size
    by_cases hlt : k < n
    · obtain ⟨b, o, f1, f2, f3, rfl, hbl, hx, c0, c1, c2⟩ := hs2.out.at (show k < xs.length by rw [HN.out]; exact hlt)
      have HX := Lib.hid hx; clear hx
      have i1 : (k : Int) < (n : Int) := by omega
      have i2 : (0 : Int) ≤ (k : Int) := by omega
      cases hp : Pf.ok ⟨f1, f2⟩
      · go_wp2_with fail
        refine wp_region_over (by kernel_rfl) (by kernel_rfl) (fun ov => ?_); have ov0 := fun x => ov x (b) (by (try simp) <;> omega); clear ov; (repeat (go_big_quiet_step (first | (go_at_call 41; exact callsOver (specPf_b hp _))))); refine wpQuiet_nil ?_; intro w9 hw9; have hb_w9 := below_over hw9; clear hw9 ov0
        go_wp2
        go_ret
        exact ⟨ret_bool (tvalid_bad HX.out (Or.inl (by simp [En.ok, hp]))).symm, by (repeat' (first | with_reducible exact Below.refl _ _ | with_reducible assumption | with_reducible refine Below.setCell ?_ ?_ _ | with_reducible refine Below.alloc ?_ ?_ _ | with_reducible refine Below.drew ?_ | with_reducible refine belDrewN ?_ _ | with_reducible refine Below.trans ?_ (Below.mono (by assumption) ?_) | omega | (simp; omega) | (simp; done)))⟩
      · cases hu : inB f3 0 99
        · go_wp2_with fail
          refine wp_region_over (by kernel_rfl) (by kernel_rfl) (fun ov => ?_); have ov0 := fun x => ov x (b) (by (try simp) <;> omega); clear ov; (repeat (go_big_quiet_step (first | (go_at_call 41; exact callsOver (specPf_b hp _)) | (go_at_call 42; exact callsOverSame (l1In_b hu _))))); refine wpQuiet_nil ?_; intro w9 hw9; have hb_w9 := below_over hw9; clear hw9 ov0
          go_wp2
          go_ret
          exact ⟨ret_bool (tvalid_bad HX.out (Or.inl (by simp [En.ok, hu]))).symm, by (repeat' (first | with_reducible exact Below.refl _ _ | with_reducible assumption | with_reducible refine Below.setCell ?_ ?_ _ | with_reducible refine Below.alloc ?_ ?_ _ | with_reducible refine Below.drew ?_ | with_reducible refine belDrewN ?_ _ | with_reducible refine Below.trans ?_ (Below.mono (by assumption) ?_) | omega | (simp; omega) | (simp; done)))⟩
        · have HK := Lib.hid (show En.ok ⟨⟨f1, f2⟩, f3⟩ = true by simp [En.ok, hp, hu])
          by_cases hk0 : k = 0
          · have hd : decide (0 < k) = false := by simp; omega
            have hd' : decide ((0 : Int) < (k : Int)) = false := by simp; omega
            have HZ := Lib.hid hk0; clear hk0
            go_wp2_with fail
            refine wp_region_over (by kernel_rfl) (by kernel_rfl) (fun ov => ?_); have ov0 := fun x => ov x (b) (by (try simp) <;> omega); clear ov; (repeat (go_big_quiet_step (first | (go_at_call 41; exact callsOver (specPf_b hp _)) | (go_at_call 42; exact callsOverSame (l1In_b hu _))))); refine wpQuiet_nil ?_; intro w9 hw9; have hb_w9 := below_over hw9; clear hw9 ov0
            go_wp2
            go_roundw
            case rel => exact ⟨k + 1, by omega, by go_num, HG.out.step HX.out HK.out (fun j y hj => by have := HZ.out; omega), by (repeat' (first | with_reducible exact Below.refl _ _ | with_reducible assumption | with_reducible refine Below.setCell ?_ ?_ _ | with_reducible refine Below.alloc ?_ ?_ _ | with_reducible refine Below.drew ?_ | with_reducible refine belDrewN ?_ _ | with_reducible refine Below.trans ?_ (Below.mono (by assumption) ?_) | omega | (simp; omega) | (simp; done)))⟩
            case measure => simp [intOf]; omega
          · obtain ⟨j, hj⟩ : ∃ j, k = j + 1 := ⟨k - 1, by omega⟩
            obtain ⟨e1, e2, e3, hy⟩ := Ens.ex (show j < xs.length by rw [HN.out]; omega)
            obtain ⟨-, d0, d1, d2⟩ := hs2.out.get hy
            have HY := Lib.hid hy; clear hy
            have hd : decide (0 < k) = true := by simp; omega
            have hd' : decide ((0 : Int) < (k : Int)) = true := by simp; omega
            have i5 : (j : Int) < (n : Int) := by omega
            have i6 : (0 : Int) ≤ (j : Int) := by omega
            have i4 : IntKind.i64.wrap ((k : Int) - 1) = (j : Int) := by rw [show (k : Int) - 1 = j by omega]; exact IntWalk.i64_in _ (by omega)
            have HJ := Lib.hid hj; clear hj hk0
            cases hl : Pf.lt ⟨e1, e2⟩ ⟨f1, f2⟩
            · go_wp2_with fail
              refine wp_region_over (by kernel_rfl) (by kernel_rfl) (fun ov => ?_); have ov0 := fun x => ov x (b) (by (try simp) <;> omega); clear ov; (repeat (go_big_quiet_step (first | (go_at_call 41; exact callsOver (specPf_b hp _)) | (go_at_call 42; exact callsOverSame (l1In_b hu _)) | (go_at_call 43; exact callsOver (before_b hl _))))); refine wpQuiet_nil ?_; intro w9 hw9; have hb_w9 := below_over hw9; clear hw9 ov0
              go_wp2
              go_ret
              exact ⟨ret_bool (tvalid_bad HX.out (Or.inr ⟨j, _, HJ.out, HY.out, hl⟩)).symm, by (repeat' (first | with_reducible exact Below.refl _ _ | with_reducible assumption | with_reducible refine Below.setCell ?_ ?_ _ | with_reducible refine Below.alloc ?_ ?_ _ | with_reducible refine Below.drew ?_ | with_reducible refine belDrewN ?_ _ | with_reducible refine Below.trans ?_ (Below.mono (by assumption) ?_) | omega | (simp; omega) | (simp; done)))⟩
            · go_wp2_with fail
              refine wp_region_over (by kernel_rfl) (by kernel_rfl) (fun ov => ?_); have ov0 := fun x => ov x (b) (by (try simp) <;> omega); clear ov; (repeat (go_big_quiet_step (first | (go_at_call 41; exact callsOver (specPf_b hp _)) | (go_at_call 42; exact callsOverSame (l1In_b hu _)) | (go_at_call 43; exact callsOver (before_b hl _))))); refine wpQuiet_nil ?_; intro w9 hw9; have hb_w9 := below_over hw9; clear hw9 ov0
              go_wp2
              go_roundw
              case rel =>
                refine ⟨k + 1, by omega, by go_num, HG.out.step HX.out HK.out (fun j' y hj hy => ?_), by (repeat' (first | with_reducible exact Below.refl _ _ | with_reducible assumption | with_reducible refine Below.setCell ?_ ?_ _ | with_reducible refine Below.alloc ?_ ?_ _ | with_reducible refine Below.drew ?_ | with_reducible refine belDrewN ?_ _ | with_reducible refine Below.trans ?_ (Below.mono (by assumption) ?_) | omega | (simp; omega) | (simp; done)))⟩
                obtain rfl : j = j' := by have := HJ.out; omega
                rw [HY.out] at hy
                cases hy
                exact hl
              case measure => simp [intOf]; omega
    · have HE := Lib.hid (show k = xs.length by rw [HN.out]; omega)
      go_wp2
      go_ret
      exact ⟨ret_bool (by rw [← tvalid_end (HE.out ▸ HG.out), HN.out]), by (repeat' (first | with_reducible exact Below.refl _ _ | with_reducible assumption | with_reducible refine Below.setCell ?_ ?_ _ | with_reducible refine Below.alloc ?_ ?_ _ | with_reducible refine Below.drew ?_ | with_reducible refine belDrewN ?_ _ | with_reducible refine Below.trans ?_ (Below.mono (by assumption) ?_) | omega | (simp; omega) | (simp; done)))⟩
theorem specTV_b {xs : List En} {v : Value} {w : World} {r : Bool} (hs : Ens w v xs) (h : tvalid xs = r) :
    Calls Try.prog 16 #[v] w fun e w' => e = .returned (.bool r) ∧ Below w.heap.size w w' := by
  subst h
  exact specTV_any xs v w hs
theorem cmpP_b {a1 a2 b1 b2 c : Int} (h : cmpP ⟨a1, a2⟩ ⟨b1, b2⟩ = c) (w : World) :
    Calls Try.prog 45 #[.agg #[.int .i64 a1, .int .i64 a2], .agg #[.int .i64 b1, .int .i64 b2]] w fun e w' => e = .returned (.int .i64 c) ∧ Below w.heap.size w w' := by
  subst h
  exact cmpP_any _ _ _ _ w
set_option maxHeartbeats 2000000 in
theorem implTV_any (xs : List En) (v : Value) (w : World) (hs : Ens w v xs) :
    Calls Try.prog 18 #[v] w fun e w' => e = .returned (.bool (tvalid xs)) ∧ Below w.heap.size w w' := by
  obtain ⟨a, cap, rfl, hlc, hcm, -⟩ := id hs
  unfold maxLen at hcm
  by_cases h30 : 30 < xs.length
  · rw [tvalid_long h30]
    generalize hn : xs.length = n at *
    clear hn
    go_enter Try.func18, Try.ntmps18
    go_wp2
    go_ret
    exact ⟨rfl, by (repeat' (first | with_reducible exact Below.refl _ _ | with_reducible assumption | with_reducible refine Below.setCell ?_ ?_ _ | with_reducible refine Below.alloc ?_ ?_ _ | with_reducible refine Below.drew ?_ | with_reducible refine belDrewN ?_ _ | with_reducible refine Below.trans ?_ (Below.mono (by assumption) ?_) | omega | (simp; omega) | (simp; done)))⟩
  · generalize hn : xs.length = n at *
    have HN := Lib.hid hn
    clear hn
    go_enter Try.func18, Try.ntmps18
    go_wp2_with fail
    go_loopw [10] (fun i wr => ∃ k : Nat, k ≤ n ∧ i = .int .i64 k ∧ TGood xs k ∧ Below w.heap.size w wr) (fun i _ => n - (intOf i).toNat)
    case atStart => exact ⟨0, by omega, rfl, fun i x hi => by omega, by (repeat' (first | with_reducible exact Below.refl _ _ | with_reducible assumption | with_reducible refine Below.setCell ?_ ?_ _ | with_reducible refine Below.alloc ?_ ?_ _ | with_reducible refine Below.drew ?_ | with_reducible refine belDrewN ?_ _ | with_reducible refine Below.trans ?_ (Below.mono (by assumption) ?_) | omega | (simp; omega) | (simp; done)))⟩
    case round =>
      obtain ⟨k, hk, rfl, hg, hbr⟩ := hrel
      have HG := Lib.hid hg; clear hg
      have hs2 := Lib.hid (hs.below hbr)
      have hz2 := hbr.size
      by_cases hlt : k < n
      · obtain ⟨b, o, f1, f2, f3, rfl, hbl, hx, c0, c1, c2⟩ := hs2.out.at (show k < xs.length by rw [HN.out]; exact hlt)
        have HX := Lib.hid hx; clear hx
        have i1 : (k : Int) < (n : Int) := by omega
        have i2 : (0 : Int) ≤ (k : Int) := by omega
        cases hp : En.ok ⟨⟨f1, f2⟩, f3⟩
        · go_wp2_with fail
          refine (entryValid_b hp _).mono ?_
          rintro e w1 ⟨rfl, hb1⟩
          go_wp2
          go_ret
          exact ⟨ret_bool (tvalid_bad HX.out (Or.inl hp)).symm, by (repeat' (first | with_reducible exact Below.refl _ _ | with_reducible assumption | with_reducible refine Below.setCell ?_ ?_ _ | with_reducible refine Below.alloc ?_ ?_ _ | with_reducible refine Below.drew ?_ | with_reducible refine belDrewN ?_ _ | with_reducible refine Below.trans ?_ (Below.mono (by assumption) ?_) | omega | (simp; omega) | (simp; done)))⟩
        · have HK := Lib.hid hp
          go_wp2_with fail
          refine (entryValid_b hp _).mono ?_
          rintro e w1 ⟨rfl, hb1⟩
          have hz1 := hb1.size; simp at hz1
          have k1 := ownCells hb1 wr.heap.size (by simp)
          simp at k1
          have a0 := k1 0; have a1 := k1 1; have a2 := k1 2
          simp at a0 a1 a2
          have hq1 : Below wr.heap.size wr w1 := ((Below.refl _ _).alloc (Nat.le_refl _) _).trans (hb1.mono (by simp))
          have hw1 : Below w.heap.size w w1 := hbr.trans (hq1.mono hz2)
          have hs3 := Lib.hid (hs2.out.below hq1)
          clear c0 c1 c2 k1 hb1 hbr hq1 hp
          by_cases hk0 : k = 0
          · have hd : decide (0 < k) = false := by simp; omega
            have hd' : decide ((0 : Int) < (k : Int)) = false := by simp; omega
            have HZ := Lib.hid hk0; clear hk0
            go_wp2_with fail
            refine wp_region_over (by kernel_rfl) (by kernel_rfl) (fun ov => ?_); have ov0 := fun x => ov x (b) (by (try simp) <;> omega); have ov1 := fun x => ov x (wr.heap.size) (by (try simp) <;> omega); clear ov; (repeat (go_big_quiet_step (first | fail))); refine wpQuiet_nil ?_; intro w9 hw9; have hb_w9 := below_over hw9; clear hw9 ov0 ov1
            go_wp2
            go_roundw
            case rel => exact ⟨k + 1, by omega, by go_num, HG.out.step HX.out HK.out (fun j y hj => by have := HZ.out; omega), by (repeat' (first | with_reducible exact Below.refl _ _ | with_reducible assumption | with_reducible refine Below.setCell ?_ ?_ _ | with_reducible refine Below.alloc ?_ ?_ _ | with_reducible refine Below.drew ?_ | with_reducible refine belDrewN ?_ _ | with_reducible refine Below.trans ?_ (Below.mono (by assumption) ?_) | omega | (simp; omega) | (simp; done)))⟩
            case measure => simp [intOf]; omega
          · obtain ⟨j, hj⟩ : ∃ j, k = j + 1 := ⟨k - 1, by omega⟩
            obtain ⟨e1, e2, e3, hy⟩ := Ens.ex (show j < xs.length by rw [HN.out]; omega)
            obtain ⟨-, d0, d1, d2⟩ := hs3.out.get hy
            have HY := Lib.hid hy; clear hy
            have hd : decide (0 < k) = true := by simp; omega
            have hd' : decide ((0 : Int) < (k : Int)) = true := by simp; omega
            have i5 : (j : Int) < (n : Int) := by omega
            have i6 : (0 : Int) ≤ (j : Int) := by omega
            have i4 : IntKind.i64.wrap ((k : Int) - 1) = (j : Int) := by rw [show (k : Int) - 1 = j by omega]; exact IntWalk.i64_in _ (by omega)
            have HJ := Lib.hid hj; clear hj hk0
            have hl := cmpP_lt ⟨e1, e2⟩ ⟨f1, f2⟩
            generalize hc : cmpP ⟨e1, e2⟩ ⟨f1, f2⟩ = c at hl
            have HC := Lib.hid hc; clear hc
            have HL := Lib.hid hl; clear hl
            go_wp2_with fail
            refine wp_region_over (by kernel_rfl) (by kernel_rfl) (fun ov => ?_); have ov0 := fun x => ov x (b) (by (try simp) <;> omega); have ov1 := fun x => ov x (wr.heap.size) (by (try simp) <;> omega); clear ov; (repeat (go_big_quiet_step (first | (go_at_call 45; exact callsOver (cmpP_b HC.out _))))); refine wpQuiet_nil ?_; intro w9 hw9; have hb_w9 := below_over hw9; clear hw9 ov0 ov1
            go_wp2
            · go_ret
              have hge : 0 ≤ c := by omega
              exact ⟨ret_bool (tvalid_bad HX.out (Or.inr ⟨j, _, HJ.out, HY.out, by rw [HL.out]; simp; omega⟩)).symm, by (repeat' (first | with_reducible exact Below.refl _ _ | with_reducible assumption | with_reducible refine Below.setCell ?_ ?_ _ | with_reducible refine Below.alloc ?_ ?_ _ | with_reducible refine Below.drew ?_ | with_reducible refine belDrewN ?_ _ | with_reducible refine Below.trans ?_ (Below.mono (by assumption) ?_) | omega | (simp; omega) | (simp; done)))⟩
            · go_roundw
              case rel =>
                refine ⟨k + 1, by omega, by go_num, HG.out.step HX.out HK.out (fun j' y hj hy => ?_), by (repeat' (first | with_reducible exact Below.refl _ _ | with_reducible assumption | with_reducible refine Below.setCell ?_ ?_ _ | with_reducible refine Below.alloc ?_ ?_ _ | with_reducible refine Below.drew ?_ | with_reducible refine belDrewN ?_ _ | with_reducible refine Below.trans ?_ (Below.mono (by assumption) ?_) | omega | (simp; omega) | (simp; done)))⟩
                obtain rfl : j = j' := by have := HJ.out; omega
                rw [HY.out] at hy
                cases hy
                show Pf.lt _ _ = true
                rw [HL.out]; simp; omega
              case measure => simp [intOf]; omega
      · have HE := Lib.hid (show k = xs.length by rw [HN.out]; omega)
        go_wp2
        go_ret
        exact ⟨ret_bool ((tvalid_iff xs).2 ⟨by rw [HN.out]; omega, HE.out ▸ HG.out⟩).symm, by (repeat' (first | with_reducible exact Below.refl _ _ | with_reducible assumption | with_reducible refine Below.setCell ?_ ?_ _ | with_reducible refine Below.alloc ?_ ?_ _ | with_reducible refine Below.drew ?_ | with_reducible refine belDrewN ?_ _ | with_reducible refine Below.trans ?_ (Below.mono (by assumption) ?_) | omega | (simp; omega) | (simp; done)))⟩
theorem implTV_b {xs : List En} {v : Value} {w : World} {r : Bool} (hs : Ens w v xs) (h : tvalid xs = r) :
    Calls Try.prog 18 #[v] w fun e w' => e = .returned (.bool r) ∧ Below w.heap.size w w' := by
  subst h
  exact implTV_any xs v w hs
end Go.Proofs.Ytfnfpekjjmejnaa
