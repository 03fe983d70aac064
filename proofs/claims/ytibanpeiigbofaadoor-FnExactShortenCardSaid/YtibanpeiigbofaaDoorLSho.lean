/- The exact law on Shorten: the walk. -/
import Derived.Test.YtibanpeiigbofaaDoorShW
import Derived.Test.YtibanpeiigbofaaDoorFnX
namespace Go.Proofs.YtibanpeiigbofaaDoor
open Go.RowKit
set_option maxHeartbeats 4000000 in
set_option maxRecDepth 100000 in
theorem law_FnExactShorten (fs : List Ft) (r : Bool) (v_fs : Value) (w : World) (hs_fs : Fts 0 w v_fs fs) (ht : Tab w) :
    Calls Tryd.prog 5 #[v_fs, .bool r] w fun e w' => e = .returned (.bool true) ∧ Below w.heap.size w w' := by
  have S_fs := Lib.hid hs_fs
  have HT := Lib.hid ht
  clear ht hs_fs
  obtain ⟨R, hR⟩ : ∃ R, shoB fs r = R := ⟨_, rfl⟩
  have HR := Lib.hid hR
  have HV := Lib.hid (show fvalid R = true by rw [← hR]; exact shoB_valid fs r)
  clear hR
  have hw0 : Below w.heap.size w w := Below.refl _ _
  go_enter Tryd.func5, Tryd.ntmps5
  obtain ⟨l1, hl1⟩ : ∃ l, szOf 1048576 (ftN fs) = l := ⟨_, rfl⟩
  have HL1 := Lib.hid hl1
  clear hl1
  go_wp2_with fail
  refine (szFlatS_any fs v_fs 1048576 _ (S_fs.out.below hw0) (by omega) (by omega)).mono ?_
  rw [HL1.out]
  rintro e w1 ⟨rfl, hb_w1⟩
  have z_w1 : w.heap.size ≤ w1.heap.size := hb_w1.size
  have hw_w1 : Below w.heap.size w w1 := hw0.trans (hb_w1.mono hw0.size)
  clear hb_w1
  by_cases hn0 : l1 < 0
  · go_wp2
    go_ret
    exact ⟨rfl, hw_w1⟩
  have HN_fs : Hid (ftN fs ≤ 1048576) := Lib.hid (by have h := HL1.out; unfold szOf at h; split at h <;> omega)
  have l10 : 0 ≤ l1 ∧ l1 ≤ 1048576 := by have h := HL1.out; unfold szOf at h; split at h <;> omega
  go_wp2_with fail
  refine (toFlatS_any fs v_fs _ (S_fs.out.below hw_w1) HN_fs.out).mono ?_
  rintro e w2 ⟨a_fs, rfl, ho, hb_w2⟩
  have O_a_fs := Lib.hid ho.fts
  clear ho
  have z_w2 : w1.heap.size ≤ w2.heap.size := hb_w2.size
  have hw_w2 : Below w.heap.size w w2 := hw_w1.trans (hb_w2.mono hw_w1.size)
  clear hw_w1
  clear hb_w2
  go_wp2_with fail
  refine (specShorten_e (O_a_fs.out) HN_fs.out HR.out).mono ?_
  rintro e w3 ⟨g_w3, rfl, ho, hb_w3⟩
  have O_gw3 := Lib.hid ho
  clear ho
  have z_w3 : w2.heap.size ≤ w3.heap.size := hb_w3.size
  have hw_w3 : Below w.heap.size w w3 := hw_w2.trans (hb_w3.mono hw_w2.size)
  clear hw_w2
  replace O_a_fs := Lib.hid (O_a_fs.out.below hb_w3)
  clear hb_w3
  clear O_a_fs
  have bB : Below w3.heap.size w3 w3 := Below.refl _ _
  go_wp2_with fail
  refine (toFlatS_any fs v_fs _ (S_fs.out.below hw_w3) HN_fs.out).mono ?_
  rintro e w4 ⟨x_fs, rfl, ho, hb_w4⟩
  have O_x_fs := Lib.hid ho.g
  clear ho
  have z_w4 : w3.heap.size ≤ w4.heap.size := hb_w4.size
  have hw_w4 : Below w.heap.size w w4 := hw_w3.trans (hb_w4.mono hw_w3.size)
  clear hw_w3
  replace bB := bB.trans (hb_w4.mono bB.size)
  clear hb_w4
  go_wp2_with fail
  have ht_w5 := HT.out.below hw_w4
  refine (implShorten_e (O_x_fs.out.fts) ht_w5 HR.out).mono ?_
  rintro e w5 ⟨g_w5, rfl, ho, hb_w5⟩
  clear ht_w5
  have O_gw5 := Lib.hid ho
  clear ho
  have z_w5 : w4.heap.size ≤ w5.heap.size := hb_w5.size
  have hw_w5 : Below w.heap.size w w5 := hw_w4.trans (hb_w5.mono hw_w4.size)
  clear hw_w4
  replace O_x_fs := Lib.hid (GFs.kind.keep _ _ _ _ _ _ O_x_fs.out (Kpi.of hb_w5))
  replace bB := bB.trans (hb_w5.mono bB.size)
  clear hb_w5
  go_wp2_with fail
  refine (eqFlatS_b (GFs.fts O_gw5.out) (O_gw3.out.below bB) (decide_eq_true rfl)).mono ?_
  rintro e w6 ⟨rfl, hb_w6⟩
  have z_w6 : w5.heap.size ≤ w6.heap.size := hb_w6.size
  have hw_w6 : Below w.heap.size w w6 := hw_w5.trans (hb_w6.mono hw_w5.size)
  clear hw_w5
  replace O_x_fs := Lib.hid (GFs.kind.keep _ _ _ _ _ _ O_x_fs.out (Kpi.of hb_w6))
  replace O_gw5 := Lib.hid (GFs.kind.keep _ _ _ _ _ _ O_gw5.out (Kpi.of hb_w6))
  replace bB := bB.trans (hb_w6.mono bB.size)
  clear hb_w6
  go_wp2_with fail
  refine (toFlatS_any fs v_fs _ (S_fs.out.below hw_w6) HN_fs.out).mono ?_
  rintro e w7 ⟨y_fs, rfl, ho, hb_w7⟩
  have O_y_fs := Lib.hid ho.fts
  clear ho
  have z_w7 : w6.heap.size ≤ w7.heap.size := hb_w7.size
  have hw_w7 : Below w.heap.size w w7 := hw_w6.trans (hb_w7.mono hw_w6.size)
  clear hw_w6
  replace O_x_fs := Lib.hid (GFs.kind.keep _ _ _ _ _ _ O_x_fs.out (Kpi.of hb_w7))
  replace O_gw5 := Lib.hid (GFs.kind.keep _ _ _ _ _ _ O_gw5.out (Kpi.of hb_w7))
  replace bB := bB.trans (hb_w7.mono bB.size)
  clear hb_w7
  go_wp2_with fail
  refine (eqFlatS_b (O_x_fs.out.fts) (O_y_fs.out) (decide_eq_true rfl)).mono ?_
  rintro e w8 ⟨rfl, hb_w8⟩
  have z_w8 : w7.heap.size ≤ w8.heap.size := hb_w8.size
  have hw_w8 : Below w.heap.size w w8 := hw_w7.trans (hb_w8.mono hw_w7.size)
  clear hw_w7
  replace O_x_fs := Lib.hid (GFs.kind.keep _ _ _ _ _ _ O_x_fs.out (Kpi.of hb_w8))
  replace O_gw5 := Lib.hid (GFs.kind.keep _ _ _ _ _ _ O_gw5.out (Kpi.of hb_w8))
  replace O_y_fs := Lib.hid (O_y_fs.out.below hb_w8)
  replace bB := bB.trans (hb_w8.mono bB.size)
  clear hb_w8
  clear O_y_fs
  go_wp2_with fail
  obtain ⟨c0, hc0⟩ : ∃ c, 1 + ftcnt fs = c := ⟨_, rfl⟩
  have hcb0 : 1 + ftcnt fs ≤ 8388608 ∧ c0 ≤ 2097153 := by have := ftcnt_le fs; have := HN_fs.out; omega
  refine (markFlatS_any _ _ fs x_fs 1 w8 O_x_fs.out (by omega) hcb0.1 (mark_he HN_fs.out)).mono ?_
  rw [hc0]
  rintro e w9 ⟨rfl, -, hk_w9⟩
  clear O_x_fs
  have z_w9 : w8.heap.size ≤ w9.heap.size := hk_w9.below.size
  have hw_w9 : Below w.heap.size w w9 := hw_w8.trans (hk_w9.below.mono (by omega))
  clear hw_w8
  replace O_gw5 := Lib.hid (GFs.kind.keep _ _ _ _ _ _ O_gw5.out (hk_w9.kpi (.inr (by omega))))
  replace bB := bB.trans (hk_w9.below.mono (by omega))
  clear hk_w9
  have hcp0 : ¬ (c0 : Int) < 0 := by omega
  clear hc0
  go_wp2_with fail
  refine (eqFlatS_b (GFs.fts O_gw5.out) (O_gw3.out.below bB) (decide_eq_true rfl)).mono ?_
  rintro e w10 ⟨rfl, hb_w10⟩
  have z_w10 : w9.heap.size ≤ w10.heap.size := hb_w10.size
  have hw_w10 : Below w.heap.size w w10 := hw_w9.trans (hb_w10.mono hw_w9.size)
  clear hw_w9
  replace O_gw5 := Lib.hid (GFs.kind.keep _ _ _ _ _ _ O_gw5.out (Kpi.of hb_w10))
  replace bB := bB.trans (hb_w10.mono bB.size)
  clear hb_w10
  go_wp2_with fail
  obtain ⟨d, hd⟩ : ∃ d, 1 + ftcnt R = d := ⟨_, rfl⟩
  have HD := Lib.hid hd
  have hdp : ¬ (d : Int) < 0 := by omega
  clear hd
  refine (markFlatS_any _ _ R g_w5 1 w10 O_gw5.out (by omega) (mark_vle HV.out) (mark_vhe HV.out)).mono ?_
  rw [HD.out]
  rintro e w11 ⟨rfl, ho, hk_w11⟩
  clear O_gw5
  have OM := Lib.hid (GFs.fts ho)
  clear ho
  have z_w11 : w10.heap.size ≤ w11.heap.size := hk_w11.below.size
  have hw_w11 : Below w.heap.size w w11 := hw_w10.trans (hk_w11.below.mono (by omega))
  clear hw_w10
  replace bB := bB.trans (hk_w11.below.mono (by omega))
  clear hk_w11
  have bM : Below w11.heap.size w11 w11 := Below.refl _ _
  go_wp2_with fail
  refine (heldFlatS_any R g_w5 1 w11 (OM.out.below bM) (mark_vle HV.out) (mark_vhe HV.out)).mono ?_
  rw [HD.out]
  rintro e _ ⟨rfl, rfl⟩
  go_wp2_with fail
  refine (toFlatS_any fs v_fs _ (S_fs.out.below hw_w11) HN_fs.out).mono ?_
  rintro e w12 ⟨u_fs, rfl, ho, hb_w12⟩
  have O_u_fs := Lib.hid ho.fts
  clear ho
  have z_w12 : w11.heap.size ≤ w12.heap.size := hb_w12.size
  have hw_w12 : Below w.heap.size w w12 := hw_w11.trans (hb_w12.mono hw_w11.size)
  clear hw_w11
  replace bB := bB.trans (hb_w12.mono bB.size)
  replace bM := bM.trans (hb_w12.mono bM.size)
  clear hb_w12
  go_wp2_with fail
  have ht_w13 := HT.out.below hw_w12
  refine (implShorten_e (O_u_fs.out) ht_w13 HR.out).mono ?_
  rintro e w13 ⟨g_w13, rfl, ho, hb_w13⟩
  clear ht_w13
  have O_gw13 := Lib.hid ho
  clear ho
  have z_w13 : w12.heap.size ≤ w13.heap.size := hb_w13.size
  have hw_w13 : Below w.heap.size w w13 := hw_w12.trans (hb_w13.mono hw_w12.size)
  clear hw_w12
  replace O_u_fs := Lib.hid (O_u_fs.out.below hb_w13)
  replace bB := bB.trans (hb_w13.mono bB.size)
  replace bM := bM.trans (hb_w13.mono bM.size)
  clear hb_w13
  clear O_u_fs
  go_wp2_with fail
  refine (eqFlatS_b (GFs.fts O_gw13.out) (O_gw3.out.below bB) (decide_eq_true rfl)).mono ?_
  rintro e w14 ⟨rfl, hb_w14⟩
  have z_w14 : w13.heap.size ≤ w14.heap.size := hb_w14.size
  have hw_w14 : Below w.heap.size w w14 := hw_w13.trans (hb_w14.mono hw_w13.size)
  clear hw_w13
  replace O_gw13 := Lib.hid (GFs.kind.keep _ _ _ _ _ _ O_gw13.out (Kpi.of hb_w14))
  replace bB := bB.trans (hb_w14.mono bB.size)
  replace bM := bM.trans (hb_w14.mono bM.size)
  clear hb_w14
  go_wp2_with fail
  refine (heldFlatS_any R g_w5 1 w14 (OM.out.below bM) (mark_vle HV.out) (mark_vhe HV.out)).mono ?_
  rw [HD.out]
  rintro e _ ⟨rfl, rfl⟩
  go_wp2
  go_ret
  exact ⟨rfl, hw_w14⟩
end Go.Proofs.YtibanpeiigbofaaDoor
