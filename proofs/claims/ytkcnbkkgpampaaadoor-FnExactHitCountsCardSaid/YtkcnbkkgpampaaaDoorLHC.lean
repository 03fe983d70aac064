/- The exact law on HitCounts: the walk. -/
import Derived.Test.YtkcnbkkgpampaaaDoorHtI
import Derived.Test.YtkcnbkkgpampaaaDoorFnL
namespace Go.Proofs.YtkcnbkkgpampaaaDoor
open Go.RowKit
theorem OwnSl.chg {α : Type} {base e sz lo hi : Nat} {enc : α → List Value} {w w' : World} {v : Value} {ys : List α} (h : OwnSl base e sz enc w v ys) (hc : Chg lo hi w w') (hh : hi ≤ base) : OwnSl base e sz enc w' v ys :=
  h.keepB (fun g _ hb hlt => hc.high g (by omega) hlt)
theorem hcount_len (fs : List Ft) (ps : List Pk) : (hcount fs ps).length ≤ 1000 := by
  unfold hcount
  split
  · rename_i h
    rw [Bool.and_eq_true] at h
    have := fvalid_60 h.1
    rw [hits_len]; omega
  · simp
set_option maxHeartbeats 4000000 in
set_option maxRecDepth 100000 in
theorem law_FnExactHitCounts (fs : List Ft) (ps : List Pk) (v u : Value) (w : World) (hs : Fts 0 w v fs) (hp : Pks w u ps) (ht : Tab w) :
    Calls Tryd.prog 9 #[v, u] w fun e w' => e = .returned (.bool true) ∧ Below w.heap.size w w' := by
  obtain ⟨ua, uc, rfl, hul, hum, -⟩ := id hp
  unfold maxLen at hum
  have HS := Lib.hid hs
  have HP := Lib.hid hp
  have HT := Lib.hid ht
  clear hs hp ht
  by_cases hn : ftN fs ≤ 1048576
  · have hz : szOf 1048576 (ftN fs) = 1048576 - (ftN fs : Int) := by unfold szOf; rw [if_neg (by omega)]
    obtain ⟨m, hm⟩ : ∃ m : Int, 1048576 - (ftN fs : Int) = m := ⟨_, rfl⟩
    rw [hm] at hz
    have hm0 : 0 ≤ m := by omega
    have hm1 : m ≤ 1048576 := by omega
    have HN := Lib.hid hn
    clear hm hn
    go_enter Tryd.func9, Tryd.ntmps9
    go_wp2_with fail
    refine (szFlatS_any fs v 1048576 _ HS.out (by omega) (by omega)).mono ?_
    rw [hz]
    rintro e w1 ⟨rfl, hw1⟩
    clear hz
    go_wp2_with fail
    refine (szPacketS_any ua ps.length uc m (by omega) hm0 (by omega) _).mono ?_
    rintro e _ ⟨rfl, rfl⟩
    by_cases hpl : m < ps.length
    · rw [if_pos hpl]
      go_wp2
      go_ret
      exact ⟨rfl, hw1⟩
    · rw [if_neg hpl]
      have hps : ps.length ≤ 1048576 := by omega
      obtain ⟨m2, hm2⟩ : ∃ m2 : Int, m - (ps.length : Int) = m2 := ⟨_, rfl⟩
      rw [hm2]
      have hm20 : ¬ m2 < 0 := by omega
      obtain ⟨R, hR⟩ : ∃ R, hcount fs ps = R := ⟨_, rfl⟩
      have HR := Lib.hid hR
      have HRL := Lib.hid (show R.length ≤ 1000 by rw [← hR]; exact hcount_len fs ps)
      have HNP := Lib.hid hps
      obtain ⟨c1, hc1⟩ : ∃ c, 1 + ftcnt fs = c := ⟨_, rfl⟩
      have hc1b : c1 ≤ 8388608 := by rw [← hc1]; exact mark_le HN.out
      have HC1 := Lib.hid hc1
      obtain ⟨c2, hc2⟩ : ∃ c, c1 + 4 * ps.length = c := ⟨_, rfl⟩
      have HC2 := Lib.hid hc2
      obtain ⟨c3, hc3⟩ : ∃ c, 1 + R.length = c := ⟨_, rfl⟩
      have HC3 := Lib.hid hc3
      have p2 : ¬ (c2 : Int) < 0 := by omega
      have p3 : ¬ (c3 : Int) < 0 := by omega
      have hs1 := HS.out.below hw1
      have hp1 := HP.out.below hw1
      clear hm2 hR hpl hps hc1 hc2 hc3
      go_wp2_with fail
      refine (toFlatS_any fs v _ hs1 HN.out).mono ?_
      rintro e w2 ⟨x2, rfl, ho2, b12⟩
      have H2 := Lib.hid ho2.fts
      clear ho2
      go_wp2_with fail
      refine (toPacketS_any ps _ _ (hp1.below b12) HNP.out).mono ?_
      rintro e w3 ⟨y3, rfl, ho3, b23⟩
      have H3 := Lib.hid ho3.pks
      clear ho3
      go_wp2_with fail
      refine (specHitCounts_e (H2.out.below b23) H3.out HR.out).mono ?_
      rintro e w4 ⟨v4, rfl, ho4, b34⟩
      have h4 := ho4.ins
      have hb_w4 : Below w1.heap.size w1 w4 := (b12.trans (b23.mono b12.size)).trans (b34.mono (b12.trans (b23.mono b12.size)).size)
      clear ho4 b12 b23 b34
      have H4 := Lib.hid h4
      have hw4 := hw1.trans (hb_w4.mono hw1.size)
      clear hb_w4 h4 hs1 hp1
      go_wp2_with fail
      refine (toFlatS_any fs v _ (HS.out.below hw4) HN.out).mono ?_
      rintro e w5 ⟨x5, rfl, ho5, b45⟩
      have hw5 := hw4.trans (b45.mono hw4.size)
      have H5 := Lib.hid ho5.g
      clear ho5
      go_wp2_with fail
      refine (toPacketS_any ps _ _ (HP.out.below hw5) HNP.out).mono ?_
      rintro e w6 ⟨y6, rfl, ho6, b56⟩
      have hw6 := hw5.trans (b56.mono hw5.size)
      have H6 := Lib.hid ho6
      have b46 := b45.trans (b56.mono b45.size)
      clear ho6
      go_wp2_with fail
      refine (implHitCounts_e (H5.out.fts.below b56) H6.out.pks (HT.out.below hw6) HR.out).mono ?_
      rintro e w7 ⟨v7, rfl, ho7, b67⟩
      have hw7 := hw6.trans (b67.mono hw6.size)
      have H7 := Lib.hid ho7
      have b47 := b46.trans (b67.mono b46.size)
      have b57 := b56.trans (b67.mono b56.size)
      clear ho7
      go_wp2_with fail
      refine (eqIntS_b H7.out.ins (H4.out.below b47) (decide_eq_true rfl)).mono ?_
      rintro e w8 ⟨rfl, b78⟩
      have hw8 := hw7.trans (b78.mono hw7.size)
      have b48 := b47.trans (b78.mono b47.size)
      have b58 := b57.trans (b78.mono b57.size)
      have b68 := b67.trans (b78.mono b67.size)
      go_wp2_with fail
      refine (toFlatS_any fs v _ (HS.out.below hw8) HN.out).mono ?_
      rintro e w9 ⟨x9, rfl, ho9, b89⟩
      have hw9 := hw8.trans (b89.mono hw8.size)
      have H9 := Lib.hid ho9.fts
      have b49 := b48.trans (b89.mono b48.size)
      have b59 := b58.trans (b89.mono b58.size)
      have b69 := b68.trans (b89.mono b68.size)
      have b79 := b78.trans (b89.mono b78.size)
      clear ho9 b89
      go_wp2_with fail
      refine (eqFlatS_b (H5.out.fts.below b59) H9.out (decide_eq_true rfl)).mono ?_
      rintro e w10 ⟨rfl, b910⟩
      have hw10 := hw9.trans (b910.mono hw9.size)
      have b410 := b49.trans (b910.mono b49.size)
      have b510 := b59.trans (b910.mono b59.size)
      have b610 := b69.trans (b910.mono b69.size)
      have b710 := b79.trans (b910.mono b79.size)
      clear b910 b49 b59 b69 b79
      go_wp2_with fail
      refine (toPacketS_any ps _ _ (HP.out.below hw10) HNP.out).mono ?_
      rintro e w11 ⟨y11, rfl, ho11, b1011⟩
      have hw11 := hw10.trans (b1011.mono hw10.size)
      have H11 := Lib.hid ho11.pks
      have b411 := b410.trans (b1011.mono b410.size)
      have b511 := b510.trans (b1011.mono b510.size)
      have b611 := b610.trans (b1011.mono b610.size)
      have b711 := b710.trans (b1011.mono b710.size)
      clear ho11 b1011 b410 b510 b610 b710
      go_wp2_with fail
      refine (eqPacketS_b (H6.out.pks.below b611) H11.out (decide_eq_true rfl)).mono ?_
      rintro e w12 ⟨rfl, b1112⟩
      have hw12 := hw11.trans (b1112.mono hw11.size)
      have b412 := b411.trans (b1112.mono b411.size)
      have b512 := b511.trans (b1112.mono b511.size)
      have b612 := b611.trans (b1112.mono b611.size)
      have b712 := b711.trans (b1112.mono b711.size)
      clear b1112 b411 b511 b611 b711
      go_wp2_with fail
      refine (markFlatS_any _ _ fs x5 1 w12 (GFs.kind.keep _ _ _ _ _ _ H5.out (Kpi.of b512)) b512.size (mark_le HN.out) (mark_he HN.out)).mono ?_
      rw [HC1.out]
      rintro e w13 ⟨rfl, -, hc13⟩
      have z45 := b45.size
      have z56 := b56.size
      have z67 := b67.size
      have hw13 := hw12.trans (hc13.below.mono hw4.size)
      have b413 := b412.trans hc13.below
      have H613 := Lib.hid (OwnSl.chg (OwnSl.kept H6.out b612) hc13 (Nat.le_refl _))
      have H713 := Lib.hid (OwnSl.chg (OwnSl.kept H7.out b712) hc13 (by omega))
      have z13 := hc13.below.size
      have z512 := b512.size
      have z612 := b612.size
      have z712 := b712.size
      clear hc13 b412 b512 b612 b712
      go_wp2_with fail
      refine (markPacketS_any w5.heap.size ps y6 c1 w13 H613.out HNP.out hc1b).mono ?_
      rw [HC2.out]
      rintro e w14 ⟨rfl, -, hg14⟩
      have hc14 : Chg w5.heap.size w6.heap.size w13 w14 := Chg.grown hg14 (fun z hz => ⟨(World.ownsRow.lt H6.out z hz).1, (World.ownsRow.lt H6.out z hz).2⟩) (by omega)
      have hw14 := hw13.trans (hc14.below.mono hw5.size)
      have b414 := b413.trans (hc14.below.mono b45.size)
      have H714 := Lib.hid (OwnSl.chg H713.out hc14 (Nat.le_refl _))
      have z14 := hc14.below.size
      clear hg14 hc14
      go_wp2_with fail
      refine (eqIntS_b (OwnIn.ins H714.out) (H4.out.below b414) (decide_eq_true rfl)).mono ?_
      rintro e w15 ⟨rfl, b1415⟩
      have hw15 := hw14.trans (b1415.mono hw14.size)
      have b415 := b414.trans (b1415.mono b414.size)
      have H715 := Lib.hid (OwnSl.kept H714.out b1415)
      have z15 := b1415.size
      clear b1415
      go_wp2_with fail
      refine (markIntS_any w6.heap.size R v7 1 w15 H715.out (by have := HRL.out; omega) (by omega)).mono ?_
      rw [HC3.out]
      rintro e w16 ⟨rfl, ho16, hg16⟩
      have hc16 : Chg w6.heap.size w7.heap.size w15 w16 := Chg.grown hg16 (fun z hz => ⟨(World.ownsRow.lt H7.out z hz).1, (World.ownsRow.lt H7.out z hz).2⟩) (by omega)
      have hw16 := hw15.trans (hc16.below.mono hw6.size)
      have b416 := b415.trans (hc16.below.mono b46.size)
      have H16 := Lib.hid (OwnIn.ins ho16)
      clear ho16 hg16 hc16
      go_wp2_with fail
      refine (heldIntS_any R.length v7 1 w16 H16.out (by have := HRL.out; omega) (by omega)).mono ?_
      rw [HC3.out]
      rintro e _ ⟨rfl, rfl⟩
      have hs16 := HS.out.below hw16
      have hp16 := HP.out.below hw16
      have ht16 := HT.out.below hw16
      go_wp2_with fail
      refine (toFlatS_any fs v _ hs16 HN.out).mono ?_
      rintro e w17 ⟨x17, rfl, ho17, b1617⟩
      have H17 := Lib.hid ho17.fts
      clear ho17
      go_wp2_with fail
      refine (toPacketS_any ps _ _ (hp16.below b1617) HNP.out).mono ?_
      rintro e w18 ⟨y18, rfl, ho18, b1718⟩
      have H18 := Lib.hid ho18.pks
      have b1618 := b1617.trans (b1718.mono b1617.size)
      clear ho18
      go_wp2_with fail
      refine (implHitCounts_e (H17.out.below b1718) H18.out (ht16.below b1618) HR.out).mono ?_
      rintro e w19 ⟨v19, rfl, ho19, b1819⟩
      have h19 := ho19.ins
      have hb_w19 := b1618.trans (b1819.mono b1618.size)
      clear ho19 b1617 b1718 b1819 b1618
      have H19 := Lib.hid h19
      have b1619 : Below w16.heap.size w16 w19 := hb_w19
      have hw19 := hw16.trans (b1619.mono hw16.size)
      have b419 := b416.trans (b1619.mono b416.size)
      clear hb_w19 h19 hs16 hp16 ht16
      go_wp2_with fail
      refine (eqIntS_b H19.out (H4.out.below b419) (decide_eq_true rfl)).mono ?_
      rintro e w20 ⟨rfl, b1920⟩
      have hw20 := hw19.trans (b1920.mono hw19.size)
      have b1620 := b1619.trans (b1920.mono b1619.size)
      clear b1920
      go_wp2_with fail
      refine (heldIntS_any R.length v7 1 w20 (H16.out.below b1620) (by have := HRL.out; omega) (by omega)).mono ?_
      rw [HC3.out]
      rintro e _ ⟨rfl, rfl⟩
      go_wp2
      go_ret
      exact ⟨rfl, hw20⟩
  · have hz : szOf 1048576 (ftN fs) = -1 := by unfold szOf; rw [if_pos (by omega)]
    go_enter Tryd.func9, Tryd.ntmps9
    go_wp2_with fail
    refine (szFlatS_any fs v 1048576 _ HS.out (by omega) (by omega)).mono ?_
    rw [hz]
    rintro e w1 ⟨rfl, hw1⟩
    go_wp2
    go_ret
    exact ⟨rfl, hw1⟩
end Go.Proofs.YtkcnbkkgpampaaaDoor
