/- The first common number of two sets: the program's walk. -/
import Derived.Test.YtkcnbkkgpampaaaDoorFsP
namespace Go.Proofs.YtkcnbkkgpampaaaDoor
open Go.RowKit
set_option maxHeartbeats 2000000 in
theorem firstCommon_any {lo lo' : Nat} {h1 m1 h2 m2 : Int} (xs ys : List Sp) (u v : Value) (w : World) (hs : Sps lo w u xs) (ht : Sps lo' w v ys) (gx : sgood h1 m1 xs = true) (gy : sgood h2 m2 ys = true) :
    Calls Tryd.prog 142 #[u, v] w fun e w' => e = .returned (.tuple #[.int .i64 (fcommon xs ys).1, .bool (fcommon xs ys).2]) ∧ Below w.heap.size w w' := by
  obtain ⟨a, cap, rfl, hlc, hcm⟩ := hs.form
  obtain ⟨a', cap', rfl, hlc', hcm'⟩ := ht.form
  unfold maxLen at hcm hcm'
  generalize hn : xs.length = n at *
  generalize hm : ys.length = m at *
  have HN := Lib.hid hn
  have HM := Lib.hid hm
  have GX := Lib.hid gx
  have GY := Lib.hid gy
  clear hn hm gx gy
  go_enter Tryd.func142, Tryd.ntmps142
  go_wp2_with fail
  go_loopw [6, 7, 8] (fun i j _ wr => ∃ p q : Nat, p ≤ n ∧ q ≤ m ∧ i = .int .i64 p ∧ j = .int .i64 q ∧ Hid (FC xs ys p q) ∧ Below w.heap.size w wr) (fun i j _ _ => n + m - ((intOf i).toNat + (intOf j).toNat))
  case atStart => exact ⟨0, 0, by omega, by omega, rfl, rfl, Lib.hid (FC.zero _ _), Below.refl _ _⟩
  case round =>
    obtain ⟨p, q, hp, hq, rfl, rfl, HF, hbr⟩ := hrel
    have hzr := hbr.size
    have i2 : (0 : Int) ≤ (p : Int) := by omega
    have i4 : (0 : Int) ≤ (q : Int) := by omega
    by_cases hlp : p < n
    · have i1 : (p : Int) < (n : Int) := by omega
      by_cases hlq : q < m
      · have i3 : (q : Int) < (m : Int) := by omega
        obtain ⟨b, o, f1, f2, rfl, hbl, hx1, c0, c1⟩ := (hs.below hbr).at (show p < xs.length by rw [HN.out]; exact hlp)
        obtain ⟨b', o', g1, g2, rfl, hbl', hx2, d0, d1⟩ := (ht.below hbr).at (show q < ys.length by rw [HM.out]; exact hlq)
        have HX := Lib.hid hx1
        have HY := Lib.hid hx2
        clear hx1 hx2
        go_wp2_with fail
        refine wp_region_over (by kernel_rfl) (by kernel_rfl) (fun ov => ?_); have ov0 := fun x => ov x (b) (by (try simp) <;> omega); have ov1 := fun x => ov x (b') (by (try simp) <;> omega); clear ov; (iterate 9 (iterate 8 (try go_big_quiet_step (first | fail)))); refine wpQuiet_nil ?_; intro w8 hw9; have hb_w8 := below_over hw9; clear hw9 ov0 ov1
        have hz8 := hb_w8.size
        have c0' := (hb_w8.cell (p := ⟨b, o + p * 2, none⟩) hbl).trans c0; have c1' := (hb_w8.cell (p := ⟨b, o + p * 2 + 1, none⟩) hbl).trans c1
        have d0' := (hb_w8.cell (p := ⟨b', o' + q * 2, none⟩) hbl').trans d0; have d1' := (hb_w8.cell (p := ⟨b', o' + q * 2 + 1, none⟩) hbl').trans d1
        have hbl8 : b < w8.heap.size := by omega
        have hbl8' : b' < w8.heap.size := by omega
        have hw8 : Below w.heap.size w w8 := hbr.trans (hb_w8.mono hzr)
        clear hb_w8 c0 c1 d0 d1
        obtain ⟨mx, hmx⟩ : ∃ mx, (if f1 < g1 then g1 else f1) = mx := ⟨_, rfl⟩
        rw [hmx]
        have HMX := Lib.hid (show max f1 g1 = mx by rw [← hmx, Int.max_def]; split <;> split <;> omega)
        clear hmx
        go_wp2_with fail
        refine wp_region_over (by kernel_rfl) (by kernel_rfl) (fun ov => ?_); have ov0 := fun x => ov x (b) (by (try simp) <;> omega); have ov1 := fun x => ov x (b') (by (try simp) <;> omega); clear ov; (iterate 9 (iterate 8 (try go_big_quiet_step (first | fail)))); refine wpQuiet_nil ?_; intro w9 hw9; have hb_w9 := below_over hw9; clear hw9 ov0 ov1
        have hz9 := hb_w9.size
        have c0 := (hb_w9.cell (p := ⟨b, o + p * 2, none⟩) hbl8).trans c0'; have c1 := (hb_w9.cell (p := ⟨b, o + p * 2 + 1, none⟩) hbl8).trans c1'
        have d0 := (hb_w9.cell (p := ⟨b', o' + q * 2, none⟩) hbl8').trans d0'; have d1 := (hb_w9.cell (p := ⟨b', o' + q * 2 + 1, none⟩) hbl8').trans d1'
        have hbl9 : b < w9.heap.size := by omega
        have hbl9' : b' < w9.heap.size := by omega
        have hw9 : Below w.heap.size w w9 := hw8.trans (hb_w9.mono hw8.size)
        clear hb_w9 c0' c1' d0' d1'
        obtain ⟨mn, hmn⟩ : ∃ mn, (if g2 < f2 then g2 else f2) = mn := ⟨_, rfl⟩
        rw [hmn]
        have HMN := Lib.hid (show min f2 g2 = mn by rw [← hmn, Int.min_def]; split <;> split <;> omega)
        clear hmn
        by_cases hmt : mx ≤ mn
        · have HE := Lib.hid (HF.out.hit HX.out HY.out (show meet1 ⟨f1, f2⟩ ⟨g1, g2⟩ = some ⟨mx, mn⟩ by rw [meet1, HMX.out, HMN.out, if_pos hmt]))
          go_wp2
          go_ret2
          exact ⟨by rw [HE.out]; rfl, hw9⟩
        · have HM1 := Lib.hid (show meet1 ⟨f1, f2⟩ ⟨g1, g2⟩ = none by rw [meet1, HMX.out, HMN.out, if_neg hmt])
          go_wp2_with fail
          refine wp_region_over (by kernel_rfl) (by kernel_rfl) (fun ov => ?_); have ov0 := fun x => ov x (b) (by (try simp) <;> omega); have ov1 := fun x => ov x (b') (by (try simp) <;> omega); clear ov; (iterate 9 (iterate 8 (try go_big_quiet_step (first | fail)))); refine wpQuiet_nil ?_; intro w7 hw9; have hb_w7 := below_over hw9; clear hw9 ov0 ov1
          have hw7 : Below w.heap.size w w7 := hw9.trans (hb_w7.mono hw9.size)
          clear hb_w7
          by_cases hfl : f2 < g2
          · have HE := Lib.hid (HF.out.left GY.out HX.out HY.out HM1.out hfl)
            go_wp2
            go_roundw
            case rel => exact ⟨p + 1, q, by omega, by omega, by go_num, rfl, HE, hw7⟩
            case measure => simp [intOf]; omega
          · have HE := Lib.hid (HF.out.right GX.out HX.out HY.out HM1.out hfl)
            go_wp2
            go_roundw
            case rel => exact ⟨p, q + 1, by omega, by omega, rfl, by go_num, HE, hw7⟩
            case measure => simp [intOf]; omega
      · have HE := Lib.hid (HF.out.none (.inr (show ys.length ≤ q by rw [HM.out]; omega)))
        go_wp2
        go_ret2
        exact ⟨by rw [HE.out]; rfl, hbr⟩
    · have HE := Lib.hid (HF.out.none (.inl (show xs.length ≤ p by rw [HN.out]; omega)))
      go_wp2
      go_ret2
      exact ⟨by rw [HE.out]; rfl, hbr⟩
end Go.Proofs.YtkcnbkkgpampaaaDoor
