/- The exact law on LiftFlat: the walk. -/
import Derived.Test.YtkcnbkkgpampaaaDoorLiW
import Derived.Test.YtkcnbkkgpampaaaDoorFnM
namespace Go.Proofs.YtkcnbkkgpampaaaDoor
open Go.RowKit
set_option maxHeartbeats 4000000 in
theorem law_FnExactLiftFlat (fs : List Ft) (v : Value) (n : Int) (w : World) (hs : Fts 0 w v fs) (ht : Tab w) :
    Calls Tryd.prog 10 #[v, .int .i64 n] w fun e w' => e = .returned (.bool true) ∧ Below w.heap.size w w' := by
  have HS := Lib.hid hs
  have HT := Lib.hid ht
  clear hs ht
  by_cases hn : ftN fs ≤ 1048576
  · obtain ⟨R, hR⟩ : ∃ R, (lift fs n).1 = R := ⟨_, rfl⟩
    obtain ⟨q, hq⟩ : ∃ q, (lift fs n).2 = q := ⟨_, rfl⟩
    have HQ := Lib.hid hq
    have HR := Lib.hid hR
    have HV := Lib.hid (show fvalid R = true by rw [← hR]; exact lift_valid fs n)
    have hz : szOf 1048576 (ftN fs) = 1048576 - (ftN fs : Int) := by unfold szOf; rw [if_neg (by omega)]
    obtain ⟨m, hm⟩ : ∃ m : Int, 1048576 - (ftN fs : Int) = m := ⟨_, rfl⟩
    rw [hm] at hz
    have hm0 : 0 ≤ m := by omega
    have HN := Lib.hid hn
    obtain ⟨c1, hc1⟩ : ∃ c, 1 + ftcnt fs = c := ⟨_, rfl⟩
    obtain ⟨c2, hc2⟩ : ∃ c, 1 + ftcnt R = c := ⟨_, rfl⟩
    have HC := Lib.hid (And.intro hc1 hc2)
    have p1 : ¬ (c1 : Int) < 0 := by omega
    have p2 : ¬ (c2 : Int) < 0 := by omega
    clear hm hn hR hc1 hc2 hq
    go_enter Tryd.func10, Tryd.ntmps10
    go_wp2_with fail
    refine (szFlatS_any fs v 1048576 _ HS.out (by omega) (by omega)).mono ?_
    rw [hz]
    rintro e w1 ⟨rfl, hw1⟩
    clear hz
    go_wp2_with fail
    refine (toFlatS_any fs v _ (HS.out.below hw1) HN.out).mono ?_
    rintro e w2 ⟨x2, rfl, ho2, hb2⟩
    have hw2 := hw1.trans (hb2.mono hw1.size)
    have H2 := Lib.hid ho2.fts
    clear ho2 hb2
    go_wp2_with fail
    refine (specLiftFlat_e H2.out HN.out HR.out HQ.out).mono ?_
    rintro e w3 ⟨v3, rfl, ho3, hb3⟩
    have hw3 := hw2.trans (hb3.mono hw2.size)
    have H3 := Lib.hid ho3
    clear ho3 hb3
    go_wp2_with fail
    refine (toFlatS_any fs v _ (HS.out.below hw3) HN.out).mono ?_
    rintro e w4 ⟨x4, rfl, ho4, hb4⟩
    have hw4 := hw3.trans (hb4.mono hw3.size)
    have H4 := Lib.hid ho4.g
    have b34 : Below w3.heap.size w3 w4 := hb4
    clear ho4 hb4
    go_wp2_with fail
    refine (implLiftFlat_e H4.out.fts (HT.out.below hw4) HR.out HQ.out).mono ?_
    rintro e w5 ⟨v5, rfl, ho5, hb5⟩
    have hw5 := hw4.trans (hb5.mono hw4.size)
    have H5 := Lib.hid ho5
    have b45 : Below w4.heap.size w4 w5 := hb5
    have b35 := b34.trans (b45.mono b34.size)
    clear ho5 hb5
    go_wp2_with fail
    refine (eqFlatS_b H5.out.fts (H3.out.below b35) (decide_eq_true rfl)).mono ?_
    rintro e w6 ⟨rfl, hb6⟩
    have hw6 := hw5.trans (hb6.mono hw5.size)
    have b36 := b35.trans (hb6.mono b35.size)
    have b46 := b45.trans (hb6.mono b45.size)
    have b56 : Below w5.heap.size w5 w6 := hb6
    clear hb6
    go_wp2_with fail
    refine (toFlatS_any fs v _ (HS.out.below hw6) HN.out).mono ?_
    rintro e w7 ⟨x7, rfl, ho7, hb7⟩
    have hw7 := hw6.trans (hb7.mono hw6.size)
    have H7 := Lib.hid ho7.fts
    have b37 := b36.trans (hb7.mono b36.size)
    have b47 := b46.trans (hb7.mono b46.size)
    have b57 := b56.trans (hb7.mono b56.size)
    clear ho7 hb7
    go_wp2_with fail
    refine (eqFlatS_b (H4.out.fts.below b47) H7.out (decide_eq_true rfl)).mono ?_
    rintro e w8 ⟨rfl, hb8⟩
    have hw8 := hw7.trans (hb8.mono hw7.size)
    have b38 := b37.trans (hb8.mono b37.size)
    have b48 := b47.trans (hb8.mono b47.size)
    have b58 := b57.trans (hb8.mono b57.size)
    clear hb8
    go_wp2_with fail
    refine (markFlatS_any _ _ fs x4 1 w8 (GFs.kind.keep _ _ _ _ _ _ H4.out (Kpi.of b48)) (by have := b48.size; omega) (mark_le HN.out) (mark_he HN.out)).mono ?_
    rw [HC.out.1]
    rintro e w9 ⟨rfl, -, hc9⟩
    have b39 := b38.trans hc9.below
    have hw9 := hw8.trans (hc9.below.mono hw3.size)
    have H9 := Lib.hid (GFs.kind.keep _ _ _ _ _ _ (GFs.kind.keep _ _ _ _ _ _ H5.out (Kpi.of b58)) (hc9.kpi (.inr (Nat.le_refl _))))
    have z9 := hc9.below.size
    have z58 := b58.size
    have z45 := b45.size
    clear hc9 b48 b58 b57 b47 b46 b56
    go_wp2_with fail
    refine (eqFlatS_b H9.out.fts (H3.out.below b39) (decide_eq_true rfl)).mono ?_
    rintro e w10 ⟨rfl, hb10⟩
    have hw10 := hw9.trans (hb10.mono hw9.size)
    have b310 := b39.trans (hb10.mono b39.size)
    have z10 := hb10.size
    have H10 := Lib.hid (GFs.kind.keep _ _ _ _ _ _ H9.out (Kpi.of hb10))
    clear hb10
    go_wp2_with fail
    refine (markFlatS_any _ _ R v5 1 w10 H10.out (by omega) (mark_vle HV.out) (mark_vhe HV.out)).mono ?_
    rw [HC.out.2]
    rintro e w11 ⟨rfl, ho11, hc11⟩
    have b311 := b310.trans (hc11.below.mono b34.size)
    have hw11 := hw10.trans (hc11.below.mono hw4.size)
    have H11 := Lib.hid (GFs.fts ho11)
    clear ho11 hc11
    go_wp2_with fail
    refine (heldFlatS_any R v5 1 w11 H11.out (mark_vle HV.out) (mark_vhe HV.out)).mono ?_
    rw [HC.out.2]
    rintro e _ ⟨rfl, rfl⟩
    go_wp2_with fail
    refine (toFlatS_any fs v _ (HS.out.below hw11) HN.out).mono ?_
    rintro e w12 ⟨x12, rfl, ho12, hb12⟩
    have hw12 := hw11.trans (hb12.mono hw11.size)
    have H12 := Lib.hid ho12.fts
    have b312 := b311.trans (hb12.mono b311.size)
    have b1112 : Below w11.heap.size w11 w12 := hb12
    clear ho12 hb12
    go_wp2_with fail
    refine (implLiftFlat_e H12.out (HT.out.below hw12) HR.out HQ.out).mono ?_
    rintro e w13 ⟨v13, rfl, ho13, hb13⟩
    have hw13 := hw12.trans (hb13.mono hw12.size)
    have H13 := Lib.hid (GFs.fts ho13)
    have b313 := b312.trans (hb13.mono b312.size)
    have b1113 := b1112.trans (hb13.mono b1112.size)
    clear ho13 hb13
    go_wp2_with fail
    refine (eqFlatS_b H13.out (H3.out.below b313) (decide_eq_true rfl)).mono ?_
    rintro e w14 ⟨rfl, hb14⟩
    have hw14 := hw13.trans (hb14.mono hw13.size)
    have b1114 := b1113.trans (hb14.mono b1113.size)
    clear hb14
    go_wp2_with fail
    refine (heldFlatS_any R v5 1 w14 (H11.out.below b1114) (mark_vle HV.out) (mark_vhe HV.out)).mono ?_
    rw [HC.out.2]
    rintro e _ ⟨rfl, rfl⟩
    go_wp2
    go_ret
    exact ⟨rfl, hw14⟩
  · have hz : szOf 1048576 (ftN fs) = -1 := by unfold szOf; rw [if_pos (by omega)]
    go_enter Tryd.func10, Tryd.ntmps10
    go_wp2_with fail
    refine (szFlatS_any fs v 1048576 _ HS.out (by omega) (by omega)).mono ?_
    rw [hz]
    rintro e w1 ⟨rfl, hw1⟩
    go_wp2
    go_ret
    exact ⟨rfl, hw1⟩
end Go.Proofs.YtkcnbkkgpampaaaDoor
