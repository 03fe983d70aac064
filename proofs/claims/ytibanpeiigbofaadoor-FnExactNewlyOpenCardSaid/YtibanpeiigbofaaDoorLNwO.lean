/- The exact law on NewlyOpen: the walk. -/
import Derived.Test.YtibanpeiigbofaaDoorNoS
import Derived.Test.YtibanpeiigbofaaDoorFnX
namespace Go.Proofs.YtibanpeiigbofaaDoor
open Go.RowKit
set_option maxHeartbeats 4000000 in
set_option maxRecDepth 100000 in
theorem law_FnExactNewlyOpen (fs : List Ft) (r : Bool) (gs : List Ft) (c : Bool) (v_fs v_gs : Value) (w : World) (hs_fs : Fts 0 w v_fs fs) (hs_gs : Fts 0 w v_gs gs) (ht : Tab w) :
    Calls Tryd.prog 8 #[v_fs, .bool r, v_gs, .bool c] w fun e w' => e = .returned (.bool true) ∧ Below w.heap.size w w' := by
  have S_fs := Lib.hid hs_fs
  have S_gs := Lib.hid hs_gs
  have HT := Lib.hid ht
  clear ht hs_fs hs_gs
  obtain ⟨R, hR⟩ : ∃ R, nopen fs r gs c = R := ⟨_, rfl⟩
  have HR := Lib.hid hR
  obtain ⟨q, hq⟩ : ∃ q, (nopenO fs r gs c).isSome = q := ⟨_, rfl⟩
  have HQ := Lib.hid hq
  clear hq
  have HV := Lib.hid (show (∀ z ∈ R, bvalid z = true) ∧ R.length ≤ 400 by rw [← hR]; exact nopen_good fs r gs c)
  clear hR
  have hw0 : Below w.heap.size w w := Below.refl _ _
  go_enter Tryd.func8, Tryd.ntmps8
  obtain ⟨l1, hl1⟩ : ∃ l, szOf 1048576 (ftN fs) = l := ⟨_, rfl⟩
  have HL1 := Lib.hid hl1
  obtain ⟨l2, hl2⟩ : ∃ l, szOf l1 (ftN gs) = l := ⟨_, rfl⟩
  have HL2 := Lib.hid hl2
  clear hl1 hl2
  go_wp2_with fail
  refine (szFlatS_any fs v_fs 1048576 _ (S_fs.out.below hw0) (by omega) (by omega)).mono ?_
  rw [HL1.out]
  rintro e w1 ⟨rfl, hb_w1⟩
  have z_w1 : w.heap.size ≤ w1.heap.size := hb_w1.size
  have hw_w1 : Below w.heap.size w w1 := hw0.trans (hb_w1.mono hw0.size)
  clear hb_w1
  by_cases hn0 : l1 < 0
  · go_wp2
    go_ret
    exact ⟨rfl, hw_w1⟩
  have HN_fs : Hid (ftN fs ≤ 1048576) := Lib.hid (by have h := HL1.out; unfold szOf at h; split at h <;> omega)
  have l10 : 0 ≤ l1 ∧ l1 ≤ 1048576 := by have h := HL1.out; unfold szOf at h; split at h <;> omega
  go_wp2_with fail
  refine (szFlatS_any gs v_gs l1 _ (S_gs.out.below hw_w1) (by omega) (by omega)).mono ?_
  rw [HL2.out]
  rintro e w2 ⟨rfl, hb_w2⟩
  have z_w2 : w1.heap.size ≤ w2.heap.size := hb_w2.size
  have hw_w2 : Below w.heap.size w w2 := hw_w1.trans (hb_w2.mono hw_w1.size)
  clear hw_w1
  clear hb_w2
  by_cases hn1 : l2 < 0
  · go_wp2
    go_ret
    exact ⟨rfl, hw_w2⟩
  have HN_gs : Hid (ftN gs ≤ 1048576) := Lib.hid (by have h := HL2.out; unfold szOf at h; split at h <;> omega)
  have l20 : 0 ≤ l2 ∧ l2 ≤ 1048576 := by have h := HL2.out; unfold szOf at h; split at h <;> omega
  go_wp2_with fail
  refine (toFlatS_any fs v_fs _ (S_fs.out.below hw_w2) HN_fs.out).mono ?_
  rintro e w3 ⟨a_fs, rfl, ho, hb_w3⟩
  have O_a_fs := Lib.hid ho.fts
  clear ho
  have z_w3 : w2.heap.size ≤ w3.heap.size := hb_w3.size
  have hw_w3 : Below w.heap.size w w3 := hw_w2.trans (hb_w3.mono hw_w2.size)
  clear hw_w2
  clear hb_w3
  go_wp2_with fail
  refine (toFlatS_any gs v_gs _ (S_gs.out.below hw_w3) HN_gs.out).mono ?_
  rintro e w4 ⟨a_gs, rfl, ho, hb_w4⟩
  have O_a_gs := Lib.hid ho.fts
  clear ho
  have z_w4 : w3.heap.size ≤ w4.heap.size := hb_w4.size
  have hw_w4 : Below w.heap.size w w4 := hw_w3.trans (hb_w4.mono hw_w3.size)
  clear hw_w3
  replace O_a_fs := Lib.hid (O_a_fs.out.below hb_w4)
  clear hb_w4
  go_wp2_with fail
  refine (specNewlyOpen_e (O_a_fs.out) (O_a_gs.out) HN_fs.out HN_gs.out HR.out HQ.out).mono ?_
  rintro e w5 ⟨g_w5, rfl, ho, hb_w5⟩
  have O_gw5 := Lib.hid ho
  clear ho
  have z_w5 : w4.heap.size ≤ w5.heap.size := hb_w5.size
  have hw_w5 : Below w.heap.size w w5 := hw_w4.trans (hb_w5.mono hw_w4.size)
  clear hw_w4
  replace O_a_fs := Lib.hid (O_a_fs.out.below hb_w5)
  replace O_a_gs := Lib.hid (O_a_gs.out.below hb_w5)
  clear hb_w5
  clear O_a_fs
  clear O_a_gs
  have bB : Below w5.heap.size w5 w5 := Below.refl _ _
  go_wp2_with fail
  refine (toFlatS_any fs v_fs _ (S_fs.out.below hw_w5) HN_fs.out).mono ?_
  rintro e w6 ⟨x_fs, rfl, ho, hb_w6⟩
  have O_x_fs := Lib.hid ho.g
  clear ho
  have z_w6 : w5.heap.size ≤ w6.heap.size := hb_w6.size
  have hw_w6 : Below w.heap.size w w6 := hw_w5.trans (hb_w6.mono hw_w5.size)
  clear hw_w5
  replace bB := bB.trans (hb_w6.mono bB.size)
  clear hb_w6
  go_wp2_with fail
  refine (toFlatS_any gs v_gs _ (S_gs.out.below hw_w6) HN_gs.out).mono ?_
  rintro e w7 ⟨x_gs, rfl, ho, hb_w7⟩
  have O_x_gs := Lib.hid ho.g
  clear ho
  have z_w7 : w6.heap.size ≤ w7.heap.size := hb_w7.size
  have hw_w7 : Below w.heap.size w w7 := hw_w6.trans (hb_w7.mono hw_w6.size)
  clear hw_w6
  replace O_x_fs := Lib.hid (GFs.kind.keep _ _ _ _ _ _ O_x_fs.out (Kpi.of hb_w7))
  replace bB := bB.trans (hb_w7.mono bB.size)
  clear hb_w7
  go_wp2_with fail
  have ht_w8 := HT.out.below hw_w7
  refine (implNewlyOpen_e (O_x_fs.out.fts) (O_x_gs.out.fts) ht_w8 HR.out HQ.out).mono ?_
  rintro e w8 ⟨g_w8, rfl, ho, hb_w8⟩
  clear ht_w8
  have O_gw8 := Lib.hid ho
  clear ho
  have z_w8 : w7.heap.size ≤ w8.heap.size := hb_w8.size
  have hw_w8 : Below w.heap.size w w8 := hw_w7.trans (hb_w8.mono hw_w7.size)
  clear hw_w7
  replace O_x_fs := Lib.hid (GFs.kind.keep _ _ _ _ _ _ O_x_fs.out (Kpi.of hb_w8))
  replace O_x_gs := Lib.hid (GFs.kind.keep _ _ _ _ _ _ O_x_gs.out (Kpi.of hb_w8))
  replace bB := bB.trans (hb_w8.mono bB.size)
  clear hb_w8
  go_wp2_with fail
  refine (eqBoxS_b (GBs.bxs O_gw8.out) (O_gw5.out.below bB) (decide_eq_true rfl)).mono ?_
  rintro e w9 ⟨rfl, hb_w9⟩
  have z_w9 : w8.heap.size ≤ w9.heap.size := hb_w9.size
  have hw_w9 : Below w.heap.size w w9 := hw_w8.trans (hb_w9.mono hw_w8.size)
  clear hw_w8
  replace O_x_fs := Lib.hid (GFs.kind.keep _ _ _ _ _ _ O_x_fs.out (Kpi.of hb_w9))
  replace O_x_gs := Lib.hid (GFs.kind.keep _ _ _ _ _ _ O_x_gs.out (Kpi.of hb_w9))
  replace O_gw8 := Lib.hid (GBs.kind.keep _ _ _ _ _ _ O_gw8.out (Kpi.of hb_w9))
  replace bB := bB.trans (hb_w9.mono bB.size)
  clear hb_w9
  go_wp2_with fail
  refine (toFlatS_any fs v_fs _ (S_fs.out.below hw_w9) HN_fs.out).mono ?_
  rintro e w10 ⟨y_fs, rfl, ho, hb_w10⟩
  have O_y_fs := Lib.hid ho.fts
  clear ho
  have z_w10 : w9.heap.size ≤ w10.heap.size := hb_w10.size
  have hw_w10 : Below w.heap.size w w10 := hw_w9.trans (hb_w10.mono hw_w9.size)
  clear hw_w9
  replace O_x_fs := Lib.hid (GFs.kind.keep _ _ _ _ _ _ O_x_fs.out (Kpi.of hb_w10))
  replace O_x_gs := Lib.hid (GFs.kind.keep _ _ _ _ _ _ O_x_gs.out (Kpi.of hb_w10))
  replace O_gw8 := Lib.hid (GBs.kind.keep _ _ _ _ _ _ O_gw8.out (Kpi.of hb_w10))
  replace bB := bB.trans (hb_w10.mono bB.size)
  clear hb_w10
  go_wp2_with fail
  refine (eqFlatS_b (O_x_fs.out.fts) (O_y_fs.out) (decide_eq_true rfl)).mono ?_
  rintro e w11 ⟨rfl, hb_w11⟩
  have z_w11 : w10.heap.size ≤ w11.heap.size := hb_w11.size
  have hw_w11 : Below w.heap.size w w11 := hw_w10.trans (hb_w11.mono hw_w10.size)
  clear hw_w10
  replace O_x_fs := Lib.hid (GFs.kind.keep _ _ _ _ _ _ O_x_fs.out (Kpi.of hb_w11))
  replace O_x_gs := Lib.hid (GFs.kind.keep _ _ _ _ _ _ O_x_gs.out (Kpi.of hb_w11))
  replace O_gw8 := Lib.hid (GBs.kind.keep _ _ _ _ _ _ O_gw8.out (Kpi.of hb_w11))
  replace O_y_fs := Lib.hid (O_y_fs.out.below hb_w11)
  replace bB := bB.trans (hb_w11.mono bB.size)
  clear hb_w11
  clear O_y_fs
  go_wp2_with fail
  refine (toFlatS_any gs v_gs _ (S_gs.out.below hw_w11) HN_gs.out).mono ?_
  rintro e w12 ⟨y_gs, rfl, ho, hb_w12⟩
  have O_y_gs := Lib.hid ho.fts
  clear ho
  have z_w12 : w11.heap.size ≤ w12.heap.size := hb_w12.size
  have hw_w12 : Below w.heap.size w w12 := hw_w11.trans (hb_w12.mono hw_w11.size)
  clear hw_w11
  replace O_x_fs := Lib.hid (GFs.kind.keep _ _ _ _ _ _ O_x_fs.out (Kpi.of hb_w12))
  replace O_x_gs := Lib.hid (GFs.kind.keep _ _ _ _ _ _ O_x_gs.out (Kpi.of hb_w12))
  replace O_gw8 := Lib.hid (GBs.kind.keep _ _ _ _ _ _ O_gw8.out (Kpi.of hb_w12))
  replace bB := bB.trans (hb_w12.mono bB.size)
  clear hb_w12
  go_wp2_with fail
  refine (eqFlatS_b (O_x_gs.out.fts) (O_y_gs.out) (decide_eq_true rfl)).mono ?_
  rintro e w13 ⟨rfl, hb_w13⟩
  have z_w13 : w12.heap.size ≤ w13.heap.size := hb_w13.size
  have hw_w13 : Below w.heap.size w w13 := hw_w12.trans (hb_w13.mono hw_w12.size)
  clear hw_w12
  replace O_x_fs := Lib.hid (GFs.kind.keep _ _ _ _ _ _ O_x_fs.out (Kpi.of hb_w13))
  replace O_x_gs := Lib.hid (GFs.kind.keep _ _ _ _ _ _ O_x_gs.out (Kpi.of hb_w13))
  replace O_gw8 := Lib.hid (GBs.kind.keep _ _ _ _ _ _ O_gw8.out (Kpi.of hb_w13))
  replace O_y_gs := Lib.hid (O_y_gs.out.below hb_w13)
  replace bB := bB.trans (hb_w13.mono bB.size)
  clear hb_w13
  clear O_y_gs
  go_wp2_with fail
  obtain ⟨c0, hc0⟩ : ∃ c, 1 + ftcnt fs = c := ⟨_, rfl⟩
  have hcb0 : 1 + ftcnt fs ≤ 8388608 ∧ c0 ≤ 2097153 := by have := ftcnt_le fs; have := HN_fs.out; omega
  refine (markFlatS_any _ _ fs x_fs 1 w13 O_x_fs.out (by omega) hcb0.1 (mark_he HN_fs.out)).mono ?_
  rw [hc0]
  rintro e w14 ⟨rfl, -, hk_w14⟩
  clear O_x_fs
  have z_w14 : w13.heap.size ≤ w14.heap.size := hk_w14.below.size
  have hw_w14 : Below w.heap.size w w14 := hw_w13.trans (hk_w14.below.mono (by omega))
  clear hw_w13
  replace O_x_gs := Lib.hid (GFs.kind.keep _ _ _ _ _ _ O_x_gs.out (hk_w14.kpi (.inr (by omega))))
  replace O_gw8 := Lib.hid (GBs.kind.keep _ _ _ _ _ _ O_gw8.out (hk_w14.kpi (.inr (by omega))))
  replace bB := bB.trans (hk_w14.below.mono (by omega))
  clear hk_w14
  have hcp0 : ¬ (c0 : Int) < 0 := by omega
  clear hc0
  go_wp2_with fail
  obtain ⟨c1, hc1⟩ : ∃ c, c0 + ftcnt gs = c := ⟨_, rfl⟩
  have hcb1 : c0 + ftcnt gs ≤ 8388608 ∧ c1 ≤ 6291457 := by have := ftcnt_le gs; have := HN_gs.out; omega
  refine (markFlatS_any _ _ gs x_gs c0 w14 O_x_gs.out (by omega) hcb1.1 (mark_he HN_gs.out)).mono ?_
  rw [hc1]
  rintro e w15 ⟨rfl, -, hk_w15⟩
  clear O_x_gs
  have z_w15 : w14.heap.size ≤ w15.heap.size := hk_w15.below.size
  have hw_w15 : Below w.heap.size w w15 := hw_w14.trans (hk_w15.below.mono (by omega))
  clear hw_w14
  replace O_gw8 := Lib.hid (GBs.kind.keep _ _ _ _ _ _ O_gw8.out (hk_w15.kpi (.inr (by omega))))
  replace bB := bB.trans (hk_w15.below.mono (by omega))
  clear hk_w15
  have hcp1 : ¬ (c1 : Int) < 0 := by omega
  clear hc1
  go_wp2_with fail
  refine (eqBoxS_b (GBs.bxs O_gw8.out) (O_gw5.out.below bB) (decide_eq_true rfl)).mono ?_
  rintro e w16 ⟨rfl, hb_w16⟩
  have z_w16 : w15.heap.size ≤ w16.heap.size := hb_w16.size
  have hw_w16 : Below w.heap.size w w16 := hw_w15.trans (hb_w16.mono hw_w15.size)
  clear hw_w15
  replace O_gw8 := Lib.hid (GBs.kind.keep _ _ _ _ _ _ O_gw8.out (Kpi.of hb_w16))
  replace bB := bB.trans (hb_w16.mono bB.size)
  clear hb_w16
  go_wp2_with fail
  obtain ⟨d, hd⟩ : ∃ d, 1 + bscnt R = d := ⟨_, rfl⟩
  have HD := Lib.hid hd
  have hdp : ¬ (d : Int) < 0 := by omega
  clear hd
  refine (markBoxS_any _ _ R g_w8 1 w16 O_gw8.out (by omega) (bs_le HV.out.1 HV.out.2) (bs_he HV.out.1)).mono ?_
  rw [HD.out]
  rintro e w17 ⟨rfl, ho, hk_w17⟩
  clear O_gw8
  have OM := Lib.hid (GBs.bxs ho)
  clear ho
  have z_w17 : w16.heap.size ≤ w17.heap.size := hk_w17.below.size
  have hw_w17 : Below w.heap.size w w17 := hw_w16.trans (hk_w17.below.mono (by omega))
  clear hw_w16
  replace bB := bB.trans (hk_w17.below.mono (by omega))
  clear hk_w17
  have bM : Below w17.heap.size w17 w17 := Below.refl _ _
  go_wp2_with fail
  refine (heldBoxS_any R g_w8 1 w17 (OM.out.below bM) (bs_le HV.out.1 HV.out.2) (bs_he HV.out.1)).mono ?_
  rw [HD.out]
  rintro e _ ⟨rfl, rfl⟩
  go_wp2_with fail
  refine (toFlatS_any fs v_fs _ (S_fs.out.below hw_w17) HN_fs.out).mono ?_
  rintro e w18 ⟨u_fs, rfl, ho, hb_w18⟩
  have O_u_fs := Lib.hid ho.fts
  clear ho
  have z_w18 : w17.heap.size ≤ w18.heap.size := hb_w18.size
  have hw_w18 : Below w.heap.size w w18 := hw_w17.trans (hb_w18.mono hw_w17.size)
  clear hw_w17
  replace bB := bB.trans (hb_w18.mono bB.size)
  replace bM := bM.trans (hb_w18.mono bM.size)
  clear hb_w18
  go_wp2_with fail
  refine (toFlatS_any gs v_gs _ (S_gs.out.below hw_w18) HN_gs.out).mono ?_
  rintro e w19 ⟨u_gs, rfl, ho, hb_w19⟩
  have O_u_gs := Lib.hid ho.fts
  clear ho
  have z_w19 : w18.heap.size ≤ w19.heap.size := hb_w19.size
  have hw_w19 : Below w.heap.size w w19 := hw_w18.trans (hb_w19.mono hw_w18.size)
  clear hw_w18
  replace O_u_fs := Lib.hid (O_u_fs.out.below hb_w19)
  replace bB := bB.trans (hb_w19.mono bB.size)
  replace bM := bM.trans (hb_w19.mono bM.size)
  clear hb_w19
  go_wp2_with fail
  have ht_w20 := HT.out.below hw_w19
  refine (implNewlyOpen_e (O_u_fs.out) (O_u_gs.out) ht_w20 HR.out HQ.out).mono ?_
  rintro e w20 ⟨g_w20, rfl, ho, hb_w20⟩
  clear ht_w20
  have O_gw20 := Lib.hid ho
  clear ho
  have z_w20 : w19.heap.size ≤ w20.heap.size := hb_w20.size
  have hw_w20 : Below w.heap.size w w20 := hw_w19.trans (hb_w20.mono hw_w19.size)
  clear hw_w19
  replace O_u_fs := Lib.hid (O_u_fs.out.below hb_w20)
  replace O_u_gs := Lib.hid (O_u_gs.out.below hb_w20)
  replace bB := bB.trans (hb_w20.mono bB.size)
  replace bM := bM.trans (hb_w20.mono bM.size)
  clear hb_w20
  clear O_u_fs
  clear O_u_gs
  go_wp2_with fail
  refine (eqBoxS_b (GBs.bxs O_gw20.out) (O_gw5.out.below bB) (decide_eq_true rfl)).mono ?_
  rintro e w21 ⟨rfl, hb_w21⟩
  have z_w21 : w20.heap.size ≤ w21.heap.size := hb_w21.size
  have hw_w21 : Below w.heap.size w w21 := hw_w20.trans (hb_w21.mono hw_w20.size)
  clear hw_w20
  replace O_gw20 := Lib.hid (GBs.kind.keep _ _ _ _ _ _ O_gw20.out (Kpi.of hb_w21))
  replace bB := bB.trans (hb_w21.mono bB.size)
  replace bM := bM.trans (hb_w21.mono bM.size)
  clear hb_w21
  go_wp2_with fail
  refine (heldBoxS_any R g_w8 1 w21 (OM.out.below bM) (bs_le HV.out.1 HV.out.2) (bs_he HV.out.1)).mono ?_
  rw [HD.out]
  rintro e _ ⟨rfl, rfl⟩
  go_wp2
  go_ret
  exact ⟨rfl, hw_w21⟩
end Go.Proofs.YtibanpeiigbofaaDoor
