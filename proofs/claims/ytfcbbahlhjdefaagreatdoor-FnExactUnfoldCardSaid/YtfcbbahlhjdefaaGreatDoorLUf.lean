/- The exact law on Unfold: the walk. -/
import Derived.Test.YtfcbbahlhjdefaaGreatDoorUQe
namespace Go.Proofs.YtfcbbahlhjdefaaGreatDoor
open Go.RowKit
theorem rucnt_le : ∀ l : List Ru, rucnt l ≤ 4 * ruN l
  | [] => by simp [rucnt, gcnt, ruN, sumTo]
  | r :: l => by
    have ih := rucnt_le l
    unfold rucnt ruN at ih ⊢
    unfold sumTo at ih ⊢
    simp only [gcnt, List.length_cons, List.take_succ_cons, List.map_cons, List.sum_cons] at ih ⊢
    omega
theorem rccnt_le : ∀ cs : List (List Ru), rccnt cs ≤ 4 * rcN cs
  | [] => by simp [rccnt, gcnt, rcN, sumTo]
  | r :: l => by
    have ih := rccnt_le l
    have h1 := rucnt_le r
    unfold rccnt rcN at ih ⊢
    unfold sumTo at ih ⊢
    simp only [gcnt, List.length_cons, List.take_succ_cons, List.map_cons, List.sum_cons] at ih ⊢
    omega
theorem rc_he {cs : List (List Ru)} (h : rcN cs ≤ 1048576) : ∀ (k : Nat) xs, cs[k]? = some xs → ∀ (j : Nat) f, xs[j]? = some f → f.ts.length ≤ 1048576 :=
  fun k xs hx j f hf => (ruN_bound ((rcN_bound h).2 k xs hx)).2 j f hf
set_option maxHeartbeats 4000000 in
set_option maxRecDepth 100000 in
theorem law_FnExactUnfold (cs : List (List Ru)) (c : Bool) (u : Value) (w : World) (hs : Rss 0 w u cs) (ht : Tab w) :
    Calls Tryz.prog 4 #[.agg #[u, .bool c]] w fun e w' => e = .returned (.bool true) ∧ Below w.heap.size w w' := by
  obtain ⟨ua, uc, rfl, -, -⟩ := hs.form
  obtain ⟨n, hn⟩ : ∃ n, cs.length = n := ⟨_, rfl⟩
  rw [hn] at hs ⊢
  obtain ⟨W, hW⟩ : ∃ W, w.alloc (.cells #[.slice ua n uc, .bool c] 51) = W := ⟨_, rfl⟩
  have hal : Below w.heap.size w W := by rw [← hW]; exact (Below.refl _ _).alloc (Nat.le_refl _) _
  have hzW : w.heap.size < W.heap.size := by rw [← hW]; simp
  have p0 : W.cell? ⟨w.heap.size, 0, none⟩ = some (.slice ua n uc) := by rw [← hW]; simp
  have p1 : W.cell? ⟨w.heap.size, 1, none⟩ = some (.bool c) := by rw [← hW]; simp
  have HP := Lib.hid (show ∀ w', Below W.heap.size W w' → w'.cell? ⟨w.heap.size, 0, none⟩ = some (.slice ua n uc) ∧ w'.cell? ⟨w.heap.size, 1, none⟩ = some (.bool c) from fun w' hb => ⟨(hb.cell (p := ⟨w.heap.size, 0, none⟩) hzW).trans p0, (hb.cell (p := ⟨w.heap.size, 1, none⟩) hzW).trans p1⟩)
  have S_a := Lib.hid (hs.below hal)
  have HT := Lib.hid (ht.below hal)
  obtain ⟨f, hf⟩ : ∃ f, rsvalid cs = true → Ht cs f 0 := by
    cases e : rsvalid cs
    · exact ⟨0, fun h => by cases h⟩
    · obtain ⟨-, -, -, -, f, h⟩ := rsvalid_in e
      exact ⟨f, fun _ => h⟩
  have HF := Lib.hid hf
  obtain ⟨R, hR⟩ : ∃ R, (ufRes cs f).getD [] = R := ⟨_, rfl⟩
  have HR := Lib.hid hR
  have HV := Lib.hid (show fvalid R = true by rw [← hR]; exact ufRes_valid)
  obtain ⟨q, hq⟩ : ∃ q, (ufRes cs f).isSome = q := ⟨_, rfl⟩
  have HQ := Lib.hid hq
  have hWl := hal.size
  clear ht hs hf hR hq hn
  go_enter Tryz.func4, Tryz.ntmps4
  obtain ⟨l1, hl1⟩ : ∃ l, szOf 1048576 (rcN cs) = l := ⟨_, rfl⟩
  have HL1 := Lib.hid hl1
  clear hl1
  go_wp2_with fail
  clear p0 p1
  refine (szRuleset_any cs _ c 1048576 _ S_a.out (by omega) (by omega)).mono ?_
  rw [HL1.out]
  rintro e w1 ⟨rfl, bW1⟩
  clear hW
  by_cases hn0 : l1 < 0
  · go_wp2
    go_ret
    exact ⟨rfl, hal.trans (bW1.mono hWl)⟩
  have HN : Hid (rcN cs ≤ 1048576) := Lib.hid (by have h := HL1.out; unfold szOf at h; split at h <;> omega)
  obtain ⟨g0, g1⟩ := HP.out w1 bW1
  have z1 := bW1.size
  go_wp2_with fail
  refine (toRuleset_any cs c _ w1 (S_a.out.below bW1) HN.out).mono ?_
  rintro e w2 ⟨v2, rfl, ho2, hb2⟩
  have O2 := Lib.hid ho2.rss
  have bW2 := bW1.trans (hb2.mono z1)
  have z2 := bW2.size
  clear ho2 hb2 g0 g1
  go_wp2_with fail
  refine (specUf_any cs f c v2 w2 O2.out HN.out HF.out HQ.out).mono ?_
  rintro e w3 ⟨v3, rfl, ho3, hb3⟩
  rw [HR.out] at ho3
  have O3 := Lib.hid ho3
  have bW3 := bW2.trans (hb3.mono z2)
  have z3 := bW3.size
  clear ho3 hb3 O2
  obtain ⟨g0, g1⟩ := HP.out w3 bW3
  go_wp2_with fail
  refine (toRuleset_any cs c _ w3 (S_a.out.below bW3) HN.out).mono ?_
  rintro e w4 ⟨x4, rfl, ho4, hb4⟩
  obtain ⟨xa, xc, hx4, -, -⟩ := ho4.form
  obtain ⟨xn, hxn⟩ : ∃ xn, cs.length = xn := ⟨_, rfl⟩
  rw [hxn] at hx4
  subst hx4
  obtain ⟨W4, hW4⟩ : ∃ W4, w4.alloc (.cells #[.slice xa xn xc, .bool c] 25) = W4 := ⟨_, rfl⟩
  have hal4 : Below w4.heap.size w4 W4 := by rw [← hW4]; exact (Below.refl _ _).alloc (Nat.le_refl _) _
  have hz4 : w4.heap.size < W4.heap.size := by rw [← hW4]; simp
  have x0 : W4.cell? ⟨w4.heap.size, 0, none⟩ = some (.slice xa xn xc) := by rw [← hW4]; simp
  have x1 : W4.cell? ⟨w4.heap.size, 1, none⟩ = some (.bool c) := by rw [← hW4]; simp
  have HX := Lib.hid (show ∀ w', Below W4.heap.size W4 w' → w'.cell? ⟨w4.heap.size, 0, none⟩ = some (.slice xa xn xc) ∧ w'.cell? ⟨w4.heap.size, 1, none⟩ = some (.bool c) from fun w' hb => ⟨(hb.cell (p := ⟨w4.heap.size, 0, none⟩) hz4).trans x0, (hb.cell (p := ⟨w4.heap.size, 1, none⟩) hz4).trans x1⟩)
  have OX := Lib.hid (GRc.keep ho4 (Kpi.of hal4))
  have h34 := hb4.size
  have bW4 := bW3.trans ((hb4.trans (hal4.mono h34)).mono z3)
  have b34 := hb4.trans (hal4.mono h34)
  have z4 := bW4.size
  clear ho4 hb4 hal4 hxn g0 g1
  go_wp2_with fail
  refine (implUf_any cs f c _ W4 OX.out.rss (HT.out.below bW4) HF.out HQ.out).mono ?_
  rintro e w5 ⟨v5, rfl, ho5, hb5⟩
  clear hW4 x0 x1
  rw [HR.out] at ho5
  have O5 := Lib.hid ho5
  have hz5 := hb5.size
  have bX5 := hb5
  have bW5 := bW4.trans (hb5.mono z4)
  have b35 := b34.trans (hb5.mono (by omega))
  replace OX := Lib.hid (GRc.keep OX.out (Kpi.of hb5))
  have z5 := bW5.size
  clear ho5 hb5 b34
  go_wp2_with fail
  refine (eqFlatS_b (GFs.fts O5.out) (O3.out.below b35) (decide_eq_true rfl)).mono ?_
  rintro e w6 ⟨rfl, hb6⟩
  have hz6 := hb6.size
  have bX6 := bX5.trans (hb6.mono hz5)
  have bW6 := bW5.trans (hb6.mono z5)
  have b36 := b35.trans (hb6.mono (by omega))
  replace OX := Lib.hid (GRc.keep OX.out (Kpi.of hb6))
  replace O5 := Lib.hid (GFs.kind.keep _ _ _ _ _ _ O5.out (Kpi.of hb6))
  have z6 := bW6.size
  clear hb6 bX5 bW5 b35
  go_wp2_with fail
  (refine wp_region_bel (W := w6) [BIs (.agg #[.slice xa xn xc, .bool c]), BIs (.agg #[.slice ua n uc, .bool c]), (fun w v => ∃ z, v = .agg #[z, .bool c] ∧ Rss 0 w z cs), (BIs (.bool true)), BIs (.bool false)] (by kernel_rfl) (fun u => by simp only [frU, Act.put, List.setIfInBounds_toArray, List.set_cons_succ, List.set_cons_zero, Nat.zero_add, Nat.reduceAdd]; exact rfl) (by kernel_rfl) ⟨bst_is _, bst_is _, (fun _ _ _ hb ⟨z, h1, h2⟩ => ⟨z, h1, h2.below hb⟩), (bst_is _), bst_is _, trivial⟩ ?_ ?_; exact ⟨stB rfl (fun u w3 hC hd Q K hK => by (have z0 := (HX.out _ (bX6.trans (hC.mono bX6.size))).1; have z1 := (HX.out _ (bX6.trans (hC.mono bX6.size))).2; go_step; exact hK _ _ rfl (Below.refl _ _) rfl)), stB rfl (fun u w3 hC hd Q K hK => by (have z0 := (HP.out _ (bW6.trans (hC.mono bW6.size))).1; have z1 := (HP.out _ (bW6.trans (hC.mono bW6.size))).2; go_step; exact hK _ _ rfl (Below.refl _ _) rfl)), stB rfl (fun u w3 hC hd Q K hK => by (have hu := bis (w := w3) (hd 1 rfl); rw [hu] at hK ⊢; clear hu; go_step; refine (toRuleset_any cs c _ _ (S_a.out.below (bW6.trans (hC.mono bW6.size))) HN.out).mono ?_; rintro e w8 ⟨z8, rfl, ho8, hb8⟩; exact hK _ _ rfl hb8 ⟨z8, rfl, ho8.rss.mono (Nat.zero_le _)⟩)), stB rfl (fun u w3 hC hd Q K hK => by (have hu := bis (w := w3) (hd 0 rfl); rw [hu] at hK ⊢; clear hu; obtain ⟨z, hu, hz⟩ := hd 2 rfl; rw [hu] at hK ⊢; clear hu; go_step; refine (eqRuleset_b (OX.out.rss.below hC) hz (show (decide (cs = cs) && decide (c = c)) = true by simp)).mono ?_; rintro e w8 ⟨rfl, hb8⟩; exact hK _ _ rfl hb8 rfl)), stB rfl (fun u w3 hC hd Q K hK => by (have hu := bis (w := w3) (hd 3 rfl); rw [hu] at hK ⊢; clear hu; go_step; exact hK _ _ rfl (Below.refl _ _) rfl)), trivial⟩); intro u w7 hb_w7 hF; rw [bis (w := w7) (hF 0 (by decide))]; rw [bis (w := w7) (hF 1 (by decide))]; generalize u 2 = vx2 at *; generalize u 3 = vx3 at *; rw [bis (w := w7) (hF 4 (by decide))]; clear hF
  have hz7 := hb_w7.size
  have bX7 := bX6.trans (hb_w7.mono bX6.size)
  have bW7 := bW6.trans (hb_w7.mono z6)
  have b37 := b36.trans (hb_w7.mono (by omega))
  replace OX := Lib.hid (GRc.keep OX.out (Kpi.of hb_w7))
  replace O5 := Lib.hid (GFs.kind.keep _ _ _ _ _ _ O5.out (Kpi.of hb_w7))
  have z7 := bW7.size
  obtain ⟨e0, e1⟩ := HX.out w7 bX7
  clear hb_w7 bX6 bW6 b36
  obtain ⟨c0, hc0⟩ : ∃ c, 1 + rccnt cs = c := ⟨_, rfl⟩
  have hcb0 : 1 + rccnt cs ≤ 8388608 ∧ ¬ (c0 : Int) < 0 := by have := rccnt_le cs; have := HN.out; omega
  have HC0 := Lib.hid (And.intro hc0 hcb0.1)
  have hcp0 := hcb0.2
  clear hc0 hcb0
  go_wp2_with fail
  refine (markRuleset_any _ _ cs c _ 1 w7 OX.out (by omega) HC0.out.2 (rc_he HN.out)).mono ?_
  rw [HC0.out.1]
  rintro e w9 ⟨rfl, -, hk9⟩
  clear OX e0 e1
  have hz9 := hk9.below.size
  have bW9 : Below W.heap.size W w9 := bW7.trans (hk9.below.mono (by omega))
  have b39 : Below w3.heap.size w3 w9 := b37.trans (hk9.below.mono (by omega))
  replace O5 := Lib.hid (GFs.kind.keep _ _ _ _ _ _ O5.out (hk9.kpi (.inr (by omega))))
  have z9 := bW9.size
  clear hk9 bW7 b37 bX7
  go_wp2_with fail
  refine (eqFlatS_b (GFs.fts O5.out) (O3.out.below b39) (decide_eq_true rfl)).mono ?_
  rintro e w10 ⟨rfl, hb10⟩
  have hz10 := hb10.size
  have bW10 := bW9.trans (hb10.mono z9)
  have b310 := b39.trans (hb10.mono b39.size)
  replace O5 := Lib.hid (GFs.kind.keep _ _ _ _ _ _ O5.out (Kpi.of hb10))
  have z10 := bW10.size
  clear hb10 bW9 b39
  obtain ⟨d, hd⟩ : ∃ d, 1 + ftcnt R = d := ⟨_, rfl⟩
  have HD := Lib.hid hd
  have hdp : ¬ (d : Int) < 0 := by omega
  clear hd
  go_wp2_with fail
  refine (markFlatS_any _ _ R _ 1 w10 O5.out (by omega) (mark_vle HV.out) (mark_vhe HV.out)).mono ?_
  rw [HD.out]
  rintro e w11 ⟨rfl, ho11, hk11⟩
  have OM := Lib.hid (GFs.fts ho11)
  have hz11 := hk11.below.size
  have bW11 : Below W.heap.size W w11 := bW10.trans (hk11.below.mono (by omega))
  have b311 : Below w3.heap.size w3 w11 := b310.trans (hk11.below.mono (by omega))
  have z11 := bW11.size
  clear O5 ho11 hk11 bW10 b310
  have bM : Below w11.heap.size w11 w11 := Below.refl _ _
  obtain ⟨g0, g1⟩ := HP.out w11 bW11
  go_wp2_with fail
  refine (heldFlatS_any R _ 1 w11 (OM.out.below bM) (mark_vle HV.out) (mark_vhe HV.out)).mono ?_
  rw [HD.out]
  rintro e _ ⟨rfl, rfl⟩
  go_wp2_with fail
  refine (toRuleset_any cs c _ w11 (S_a.out.below bW11) HN.out).mono ?_
  rintro e w12 ⟨v12, rfl, ho12, hb12⟩
  have O12 := Lib.hid ho12.rss
  have bW12 := bW11.trans (hb12.mono z11)
  have b312 := b311.trans (hb12.mono b311.size)
  have bM12 := bM.trans (hb12.mono bM.size)
  have z12 := bW12.size
  clear ho12 hb12 g0 g1 bM b311 bW11
  go_wp2_with fail
  refine (implUf_any cs f c _ w12 O12.out (HT.out.below bW12) HF.out HQ.out).mono ?_
  rintro e w13 ⟨v13, rfl, ho13, hb13⟩
  rw [HR.out] at ho13
  have O13 := Lib.hid ho13
  have bW13 := bW12.trans (hb13.mono z12)
  have b313 := b312.trans (hb13.mono b312.size)
  have bM13 := bM12.trans (hb13.mono bM12.size)
  have z13 := bW13.size
  clear ho13 hb13 O12
  go_wp2_with fail
  refine (eqFlatS_b (GFs.fts O13.out) (O3.out.below b313) (decide_eq_true rfl)).mono ?_
  rintro e w14 ⟨rfl, hb14⟩
  have bW14 := bW13.trans (hb14.mono z13)
  have bM14 := bM13.trans (hb14.mono bM13.size)
  clear hb14
  go_wp2_with fail
  refine (heldFlatS_any R _ 1 w14 (OM.out.below bM14) (mark_vle HV.out) (mark_vhe HV.out)).mono ?_
  rw [HD.out]
  rintro e _ ⟨rfl, rfl⟩
  go_wp2
  go_ret
  exact ⟨rfl, hal.trans (bW14.mono hWl)⟩
end Go.Proofs.YtfcbbahlhjdefaaGreatDoor
