/- The exact law on FlatsSame: the walk. -/
import Derived.Test.YtibanpeiigbofaaDoorFdS
import Derived.Test.YtibanpeiigbofaaDoorFnX
namespace Go.Proofs.YtibanpeiigbofaaDoor
open Go.RowKit
set_option maxHeartbeats 4000000 in
set_option maxRecDepth 100000 in
theorem law_FnExactFlatsSame (fs : List Ft) (r : Bool) (gs : List Ft) (c : Bool) (v_fs v_gs : Value) (w : World) (hs_fs : Fts 0 w v_fs fs) (hs_gs : Fts 0 w v_gs gs) (ht : Tab w) :
    Calls Tryd.prog 7 #[v_fs, .bool r, v_gs, .bool c] w fun e w' => e = .returned (.bool true) ∧ Below w.heap.size w w' := by
  have S_fs := Lib.hid hs_fs
  have S_gs := Lib.hid hs_gs
  have HT := Lib.hid ht
  clear ht hs_fs hs_gs
  obtain ⟨R, hR⟩ : ∃ R, fsame fs r gs c = R := ⟨_, rfl⟩
  have HR := Lib.hid hR
  clear hR
  have hw0 : Below w.heap.size w w := Below.refl _ _
  go_enter Tryd.func7, Tryd.ntmps7
  obtain ⟨l1, hl1⟩ : ∃ l, szOf 1048576 (ftN fs) = l := ⟨_, rfl⟩
  have HL1 := Lib.hid hl1
  obtain ⟨l2, hl2⟩ : ∃ l, szOf l1 (ftN gs) = l := ⟨_, rfl⟩
  have HL2 := Lib.hid hl2
  clear hl1 hl2
  go_wp2_with fail
  refine (szFlatS_any fs v_fs 1048576 _ (S_fs.out.below hw0) (by omega) (by omega)).mono ?_
  rw [HL1.out]
  rintro e w1 ⟨rfl, hb_w1⟩
  have z_w1 : w.heap.size ≤ w1.heap.size := hb_w1.size
  have hw_w1 : Below w.heap.size w w1 := hw0.trans (hb_w1.mono hw0.size)
  clear hb_w1
  by_cases hn0 : l1 < 0
  · go_wp2
    go_ret
    exact ⟨rfl, hw_w1⟩
  have HN_fs : Hid (ftN fs ≤ 1048576) := Lib.hid (by have h := HL1.out; unfold szOf at h; split at h <;> omega)
  have l10 : 0 ≤ l1 ∧ l1 ≤ 1048576 := by have h := HL1.out; unfold szOf at h; split at h <;> omega
  go_wp2_with fail
  refine (szFlatS_any gs v_gs l1 _ (S_gs.out.below hw_w1) (by omega) (by omega)).mono ?_
  rw [HL2.out]
  rintro e w2 ⟨rfl, hb_w2⟩
  have z_w2 : w1.heap.size ≤ w2.heap.size := hb_w2.size
  have hw_w2 : Below w.heap.size w w2 := hw_w1.trans (hb_w2.mono hw_w1.size)
  clear hw_w1
  clear hb_w2
  by_cases hn1 : l2 < 0
  · go_wp2
    go_ret
    exact ⟨rfl, hw_w2⟩
  have HN_gs : Hid (ftN gs ≤ 1048576) := Lib.hid (by have h := HL2.out; unfold szOf at h; split at h <;> omega)
  have l20 : 0 ≤ l2 ∧ l2 ≤ 1048576 := by have h := HL2.out; unfold szOf at h; split at h <;> omega
  go_wp2_with fail
  refine (toFlatS_any fs v_fs _ (S_fs.out.below hw_w2) HN_fs.out).mono ?_
  rintro e w3 ⟨a_fs, rfl, ho, hb_w3⟩
  have O_a_fs := Lib.hid ho.fts
  clear ho
  have z_w3 : w2.heap.size ≤ w3.heap.size := hb_w3.size
  have hw_w3 : Below w.heap.size w w3 := hw_w2.trans (hb_w3.mono hw_w2.size)
  clear hw_w2
  clear hb_w3
  go_wp2_with fail
  refine (toFlatS_any gs v_gs _ (S_gs.out.below hw_w3) HN_gs.out).mono ?_
  rintro e w4 ⟨a_gs, rfl, ho, hb_w4⟩
  have O_a_gs := Lib.hid ho.fts
  clear ho
  have z_w4 : w3.heap.size ≤ w4.heap.size := hb_w4.size
  have hw_w4 : Below w.heap.size w w4 := hw_w3.trans (hb_w4.mono hw_w3.size)
  clear hw_w3
  replace O_a_fs := Lib.hid (O_a_fs.out.below hb_w4)
  clear hb_w4
  go_wp2_with fail
  refine (specFlatsSame_e (O_a_fs.out) (O_a_gs.out) HN_fs.out HN_gs.out HR.out).mono ?_
  rintro e w5 ⟨rfl, hb_w5⟩
  have z_w5 : w4.heap.size ≤ w5.heap.size := hb_w5.size
  have hw_w5 : Below w.heap.size w w5 := hw_w4.trans (hb_w5.mono hw_w4.size)
  clear hw_w4
  replace O_a_fs := Lib.hid (O_a_fs.out.below hb_w5)
  replace O_a_gs := Lib.hid (O_a_gs.out.below hb_w5)
  clear hb_w5
  clear O_a_fs
  clear O_a_gs
  go_wp2_with fail
  refine (toFlatS_any fs v_fs _ (S_fs.out.below hw_w5) HN_fs.out).mono ?_
  rintro e w6 ⟨x_fs, rfl, ho, hb_w6⟩
  have O_x_fs := Lib.hid ho.g
  clear ho
  have z_w6 : w5.heap.size ≤ w6.heap.size := hb_w6.size
  have hw_w6 : Below w.heap.size w w6 := hw_w5.trans (hb_w6.mono hw_w5.size)
  clear hw_w5
  clear hb_w6
  go_wp2_with fail
  refine (toFlatS_any gs v_gs _ (S_gs.out.below hw_w6) HN_gs.out).mono ?_
  rintro e w7 ⟨x_gs, rfl, ho, hb_w7⟩
  have O_x_gs := Lib.hid ho.g
  clear ho
  have z_w7 : w6.heap.size ≤ w7.heap.size := hb_w7.size
  have hw_w7 : Below w.heap.size w w7 := hw_w6.trans (hb_w7.mono hw_w6.size)
  clear hw_w6
  replace O_x_fs := Lib.hid (GFs.kind.keep _ _ _ _ _ _ O_x_fs.out (Kpi.of hb_w7))
  clear hb_w7
  go_wp2_with fail
  have ht_w8 := HT.out.below hw_w7
  refine (implFlatsSame_e (O_x_fs.out.fts) (O_x_gs.out.fts) ht_w8 HR.out).mono ?_
  rintro e w8 ⟨rfl, hb_w8⟩
  clear ht_w8
  have z_w8 : w7.heap.size ≤ w8.heap.size := hb_w8.size
  have hw_w8 : Below w.heap.size w w8 := hw_w7.trans (hb_w8.mono hw_w7.size)
  clear hw_w7
  replace O_x_fs := Lib.hid (GFs.kind.keep _ _ _ _ _ _ O_x_fs.out (Kpi.of hb_w8))
  replace O_x_gs := Lib.hid (GFs.kind.keep _ _ _ _ _ _ O_x_gs.out (Kpi.of hb_w8))
  clear hb_w8
  go_wp2_with fail
  refine (toFlatS_any fs v_fs _ (S_fs.out.below hw_w8) HN_fs.out).mono ?_
  rintro e w9 ⟨y_fs, rfl, ho, hb_w9⟩
  have O_y_fs := Lib.hid ho.fts
  clear ho
  have z_w9 : w8.heap.size ≤ w9.heap.size := hb_w9.size
  have hw_w9 : Below w.heap.size w w9 := hw_w8.trans (hb_w9.mono hw_w8.size)
  clear hw_w8
  replace O_x_fs := Lib.hid (GFs.kind.keep _ _ _ _ _ _ O_x_fs.out (Kpi.of hb_w9))
  replace O_x_gs := Lib.hid (GFs.kind.keep _ _ _ _ _ _ O_x_gs.out (Kpi.of hb_w9))
  clear hb_w9
  go_wp2_with fail
  refine (eqFlatS_b (O_x_fs.out.fts) (O_y_fs.out) (decide_eq_true rfl)).mono ?_
  rintro e w10 ⟨rfl, hb_w10⟩
  have z_w10 : w9.heap.size ≤ w10.heap.size := hb_w10.size
  have hw_w10 : Below w.heap.size w w10 := hw_w9.trans (hb_w10.mono hw_w9.size)
  clear hw_w9
  replace O_x_fs := Lib.hid (GFs.kind.keep _ _ _ _ _ _ O_x_fs.out (Kpi.of hb_w10))
  replace O_x_gs := Lib.hid (GFs.kind.keep _ _ _ _ _ _ O_x_gs.out (Kpi.of hb_w10))
  replace O_y_fs := Lib.hid (O_y_fs.out.below hb_w10)
  clear hb_w10
  clear O_y_fs
  clear O_x_fs
  go_wp2_with fail
  refine (toFlatS_any gs v_gs _ (S_gs.out.below hw_w10) HN_gs.out).mono ?_
  rintro e w11 ⟨y_gs, rfl, ho, hb_w11⟩
  have O_y_gs := Lib.hid ho.fts
  clear ho
  have z_w11 : w10.heap.size ≤ w11.heap.size := hb_w11.size
  have hw_w11 : Below w.heap.size w w11 := hw_w10.trans (hb_w11.mono hw_w10.size)
  clear hw_w10
  replace O_x_gs := Lib.hid (GFs.kind.keep _ _ _ _ _ _ O_x_gs.out (Kpi.of hb_w11))
  clear hb_w11
  go_wp2_with fail
  refine (eqFlatS_b (O_x_gs.out.fts) (O_y_gs.out) (decide_eq_true rfl)).mono ?_
  rintro e w12 ⟨rfl, hb_w12⟩
  have z_w12 : w11.heap.size ≤ w12.heap.size := hb_w12.size
  have hw_w12 : Below w.heap.size w w12 := hw_w11.trans (hb_w12.mono hw_w11.size)
  clear hw_w11
  replace O_x_gs := Lib.hid (GFs.kind.keep _ _ _ _ _ _ O_x_gs.out (Kpi.of hb_w12))
  replace O_y_gs := Lib.hid (O_y_gs.out.below hb_w12)
  clear hb_w12
  clear O_y_gs
  clear O_x_gs
  go_wp2
  go_ret
  exact ⟨rfl, hw_w12⟩
end Go.Proofs.YtibanpeiigbofaaDoor
