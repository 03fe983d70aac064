/- The law FnUnfoldQuiet: the walk. -/
import Derived.Test.YtfcbbahlhjdefaaDoorDrJ
import Derived.Test.YtfcbbahlhjdefaaDoorQuW
import Derived.Test.YtfcbbahlhjdefaaDoorSpJ
import Derived.Test.YtfcbbahlhjdefaaDoorUQe
import Derived.Test.YtfcbbahlhjdefaaDoorDxAJ
namespace Go.Proofs.YtfcbbahlhjdefaaDoor
open Go.RowKit
/-- Two cells of a block. -/
structure C2u (w : World) (b : Nat) (u v : Value) : Prop where
  l : b < w.heap.size
  c0 : w.cell? ⟨b, 0, none⟩ = some u
  c1 : w.cell? ⟨b, 1, none⟩ = some v
theorem C2u.bel {w w' : World} {b : Nat} {u v : Value} (h : C2u w b u v) (hb : Below w.heap.size w w') : C2u w' b u v := ⟨Nat.lt_of_lt_of_le h.l hb.size, (hb.cell (p := ⟨b, 0, none⟩) h.l).trans h.c0, (hb.cell (p := ⟨b, 1, none⟩) h.l).trans h.c1⟩
theorem set_sameq {α : Type} {l : List α} {k : Nat} {x : α} (h : l[k]? = some x) : l.set k x = l := by
  have hl := (List.getElem?_eq_some_iff.1 h).1
  have h2 := (List.getElem?_eq_some_iff.1 h).2
  rw [← h2]
  exact List.set_getElem_self hl
theorem quiet_snoc {cs : List (List Ru)} {c : Nat} {rs : List Ru} (h : cs[c]? = some rs) : quiet (cs.take (c + 1)) = quiet (cs.take c) ++ [quietL rs] := by
  unfold quiet
  rw [List.take_add_one, h, Option.toList_some, List.map_append]
  rfl
set_option maxHeartbeats 4000000 in
set_option maxRecDepth 100000 in
theorem law_FnUnfoldQuiet (bs : List Int) (v : Value) (w : World) (h : CodeAt w v bs) (ht : Tab w) :
    Calls Tryd.prog 3 #[v] w fun e w' => e = .returned (.bool true) ∧ Below w.heap.size w w' := by
  obtain ⟨a, cap, rfl, l1, l2, -⟩ := code_cells h
  unfold maxLen at l2
  by_cases hl : 1048576 < bs.length
  · go_enter Tryd.func3, Tryd.ntmps3
    go_wp2
    go_ret
    exact ⟨rfl, by (repeat' (first | with_reducible exact Below.refl _ _ | with_reducible assumption | with_reducible refine Below.setCell ?_ ?_ _ | with_reducible refine Below.alloc ?_ ?_ _ | with_reducible refine Below.drew ?_ | with_reducible refine belDrewN ?_ _ | with_reducible refine Below.trans ?_ (Below.mono (by assumption) ?_) | omega | (simp; omega) | (simp; done)))⟩
  go_enter Tryd.func3, Tryd.ntmps3
  go_wp2_with fail
  refine (drawJ_any _ _ _ h).mono ?_
  rintro e w1 ⟨v0, cs, acc, ⟨pa, pb, pc, pd⟩, rfl, ho, hl3, hrc, hb_w1⟩
  have hw_w1 := hb_w1
  have HS := Lib.hid (ho.mono (Nat.zero_le _))
  have HT := Lib.hid (ht.below hb_w1)
  have HRC := Lib.hid hrc
  clear hb_w1 ho hrc h ht
  obtain ⟨sa, sc, rfl, -, -⟩ := HS.out.form
  obtain ⟨n, hn⟩ : ∃ n, cs.length = n := ⟨_, rfl⟩
  have HN := Lib.hid hn
  rw [hn] at HS hl3
  rw [hn]
  clear hn
  obtain ⟨W, hW⟩ : ∃ W, (w1.alloc (.cells #[.slice sa n sc, .bool acc] 25)).alloc (.cells #[.int .i64 pa, .int .i64 pb, .int .i64 pc, .int .i64 pd] 27) = W := ⟨_, rfl⟩
  have hal : Below w1.heap.size w1 W := by rw [← hW]; (repeat' (first | with_reducible exact Below.refl _ _ | with_reducible assumption | with_reducible refine Below.setCell ?_ ?_ _ | with_reducible refine Below.alloc ?_ ?_ _ | with_reducible refine Below.drew ?_ | with_reducible refine belDrewN ?_ _ | with_reducible refine Below.trans ?_ (Below.mono (by assumption) ?_) | omega | (simp; omega) | (simp; done)))
  have HA := alloc2_cells w1 #[.slice sa n sc, .bool acc] #[.int .i64 pa, .int .i64 pb, .int .i64 pc, .int .i64 pd] 25 27
  rw [hW] at HA
  have hzW : w1.heap.size + 1 < W.heap.size := by rw [← hW]; simp
  have hcr : C2u W w1.heap.size (.slice sa n sc) (.bool acc) := ⟨by omega, (HA.1 0).1, (HA.1 1).1⟩
  have hpk : Box4 W (w1.heap.size + 1) pa pb pc pd := ⟨hzW, (HA.2 0).1, (HA.2 1).1, (HA.2 2).1, (HA.2 3).1, fun j => (HA.2 j).2⟩
  have hw_W := hw_w1.trans (hal.mono hw_w1.size)
  clear hw_w1
  replace HS := Lib.hid (HS.out.below hal)
  replace HT := Lib.hid (HT.out.below hal)
  have HCR := Lib.hid (hcr)
  have HP := Lib.hid (hpk)
  clear hal hcr hpk HA
  obtain ⟨jq, hj1⟩ : ∃ jq, jd cs 6 acc ⟨pa, pb, pc, pd⟩ = jq := ⟨_, rfl⟩
  have HJ := Lib.hid hj1
  clear hj1
  have rl := HCR.out.l
  have r0 := HCR.out.c0
  have r1 := HCR.out.c1
  obtain ⟨zl, z0, z1, z2, z3, -⟩ := HP.out
  go_wp2_with fail
  clear hW
  (refine wp_region_bel (W := W) [BIs (.agg #[.slice sa n sc, .bool acc]), BIs (.agg #[.int .i64 pa, .int .i64 pb, .int .i64 pc, .int .i64 pd]), (BIs (.bool jq)), BIs (.agg #[.slice sa n sc, .bool acc]), BIs (.agg #[.int .i64 pa, .int .i64 pb, .int .i64 pc, .int .i64 pd]), (BIs (.bool jq)), (BIs (.bool false))] (by kernel_rfl) (fun u => by simp only [frU, Act.put, List.setIfInBounds_toArray, List.set_cons_succ, List.set_cons_zero, Nat.zero_add, Nat.reduceAdd]; exact rfl) (by kernel_rfl) ⟨bst_is _, bst_is _, (bst_is _), bst_is _, bst_is _, (bst_is _), (bst_is _), trivial⟩ ?_ ?_; exact ⟨stB rfl (fun u w3 hC hd Q K hK => by (have e0 := (hC.cell (p := ⟨w1.heap.size, 0, none⟩) rl).trans r0; have e1 := (hC.cell (p := ⟨w1.heap.size, 1, none⟩) rl).trans r1; go_step; exact hK _ _ rfl (Below.refl _ _) rfl)), stB rfl (fun u w3 hC hd Q K hK => by (have e0 := (hC.cell (p := ⟨w1.heap.size + 1, 0, none⟩) zl).trans z0; have e1 := (hC.cell (p := ⟨w1.heap.size + 1, 1, none⟩) zl).trans z1; have e2 := (hC.cell (p := ⟨w1.heap.size + 1, 2, none⟩) zl).trans z2; have e3 := (hC.cell (p := ⟨w1.heap.size + 1, 3, none⟩) zl).trans z3; go_step; exact hK _ _ rfl (Below.refl _ _) rfl)), stB rfl (fun u w3 hC hd Q K hK => by (have hu := bis (w := w3) (hd 0 rfl); rw [hu] at hK ⊢; clear hu; have hu := bis (w := w3) (hd 1 rfl); rw [hu] at hK ⊢; clear hu; go_step; refine (implJudge_b (HS.out.below hC) (HT.out.below hC) HJ.out).mono ?_; rintro e w4 ⟨rfl, hb4⟩; exact hK _ _ rfl hb4 rfl)), stB rfl (fun u w3 hC hd Q K hK => by (have e0 := (hC.cell (p := ⟨w1.heap.size, 0, none⟩) rl).trans r0; have e1 := (hC.cell (p := ⟨w1.heap.size, 1, none⟩) rl).trans r1; go_step; exact hK _ _ rfl (Below.refl _ _) rfl)), stB rfl (fun u w3 hC hd Q K hK => by (have e0 := (hC.cell (p := ⟨w1.heap.size + 1, 0, none⟩) zl).trans z0; have e1 := (hC.cell (p := ⟨w1.heap.size + 1, 1, none⟩) zl).trans z1; have e2 := (hC.cell (p := ⟨w1.heap.size + 1, 2, none⟩) zl).trans z2; have e3 := (hC.cell (p := ⟨w1.heap.size + 1, 3, none⟩) zl).trans z3; go_step; exact hK _ _ rfl (Below.refl _ _) rfl)), stB rfl (fun u w3 hC hd Q K hK => by (have hu := bis (w := w3) (hd 3 rfl); rw [hu] at hK ⊢; clear hu; have hu := bis (w := w3) (hd 4 rfl); rw [hu] at hK ⊢; clear hu; go_step; refine (specJudge_b (HS.out.below hC) HJ.out).mono ?_; rintro e w4 ⟨rfl, hb4⟩; exact hK _ _ rfl hb4 rfl)), stB rfl (fun u w3 hC hd Q K hK => by (have hu := bis (w := w3) (hd 2 rfl); rw [hu] at hK ⊢; clear hu; have hu := bis (w := w3) (hd 5 rfl); rw [hu] at hK ⊢; clear hu; (go_step; exact hK _ _ rfl (Below.refl _ _) (by first | rfl | (cases jq <;> rfl))))), trivial⟩); intro u wz hb_wz hF; rw [bis (w := wz) (hF 0 (by decide))]; rw [bis (w := wz) (hF 1 (by decide))]; generalize u 2 = vx2 at *; rw [bis (w := wz) (hF 3 (by decide))]; rw [bis (w := wz) (hF 4 (by decide))]; generalize u 5 = vx5 at *; have h6 := hF 6 (by decide); generalize u 6 = v6 at *; clear hF
  obtain rfl := bis (w := wz) h6
  clear h6
  clear rl r0 r1 zl z0 z1 z2 z3
  have hw_wz := hw_W.trans (hb_wz.mono hw_W.size)
  clear hw_W
  replace HS := Lib.hid (HS.out.below hb_wz)
  replace HT := Lib.hid (HT.out.below hb_wz)
  replace HCR := Lib.hid (C2u.bel HCR.out hb_wz)
  replace HP := Lib.hid (Box4.bel HP.out hb_wz)
  clear hb_wz
  obtain ⟨V, hV⟩ : ∃ V, wz.alloc (.cells #[.slice none 0 0, .bool acc] 25) = V := ⟨_, rfl⟩
  have halV : Below wz.heap.size wz V := by rw [← hV]; exact (Below.refl _ _).alloc (Nat.le_refl _) _
  have HQ0 := Lib.hid (show Qx wz.heap.size wz.heap.size acc V (.slice none 0 0) (quiet (cs.take 0)) from ⟨Nat.le_refl _, by rw [← hV]; simp, by rw [← hV]; simp, by rw [← hV]; simp, fun j => by rw [← hV]; exact frz_new wz _ _ j, [], OwnSl.nil _ _ _ _ _, by simp [Value.ownBlock], All2.nil⟩)
  have HBV := Lib.hid halV
  have rl := HCR.out.l
  have r0 := HCR.out.c0
  have r1 := HCR.out.c1
  clear halV
  go_wp2_with fail
  clear hV
  go_loopw [6] (fun i wr => ∃ (c : Nat) (cv : Value), c ≤ n ∧ i = .int .i64 c ∧ Hid (Qx wz.heap.size wz.heap.size acc wr cv (quiet (cs.take c))) ∧ Hid (Below wz.heap.size wz wr)) (fun i _ => n - (intOf i).toNat)
  case atStart => exact ⟨0, _, by omega, rfl, HQ0, HBV⟩
  case round =>
    clear HQ0 HBV
    obtain ⟨c, cv, hc, rfl, HQ, HB⟩ := hrel
    have hzr := HB.out.size
    have s0 := (HB.out.cell (p := ⟨w1.heap.size, 0, none⟩) rl).trans r0
    have s1 := (HB.out.cell (p := ⟨w1.heap.size, 1, none⟩) rl).trans r1
    have hsl : w1.heap.size < wr.heap.size := by omega
    by_cases hcn : c < n
    · have i1 : (c : Int) < (n : Int) := by omega
      have i2 : (0 : Int) ≤ (c : Int) := by omega
      obtain ⟨rs, hrs⟩ : ∃ rs, cs[c]? = some rs := ⟨_, List.getElem?_eq_getElem (by rw [HN.out]; exact hcn)⟩
      have HRS := Lib.hid hrs
      have hr10 := (HRC.out c rs hrs).1
      obtain ⟨bb, oo, rv, hva, hbb, hrc, hru⟩ := HS.out.at hrs
      subst hva
      obtain ⟨ra, rcap, hrv, -, -⟩ := hru.form
      obtain ⟨rn, hrn⟩ : ∃ rn, rs.length = rn := ⟨_, rfl⟩
      rw [hrn] at hrv hr10
      subst hrv
      have HRN := Lib.hid hrn
      obtain ⟨v5, w5, hrun, hq5, hb5⟩ := Qc.copy 31 hru HB.out (by rw [hrn]; omega)
      obtain ⟨ga, gc, hv5⟩ := hq5.form
      rw [hrn] at hv5
      subst hv5
      obtain ⟨V1, hV1⟩ : ∃ V1, wr.alloc (.cells #[] 34) = V1 := ⟨_, rfl⟩
      have hal1 : Below wr.heap.size wr V1 := by rw [← hV1]; exact (Below.refl _ _).alloc (Nat.le_refl _) _
      rw [hV1] at hrun
      have m0 := (hal1.cell (p := ⟨w1.heap.size, 0, none⟩) hsl).trans s0
      have m1 := ((HB.out.trans (hal1.mono hzr)).cell (p := ⟨bb, oo + c, none⟩) hbb).trans hrc
      obtain ⟨lo, hlo⟩ : ∃ lo, wr.heap.size = lo := ⟨_, rfl⟩
      have HQ5 := Lib.hid (show Qc wz.heap.size lo w5 (.slice ga rn gc) (qto rs 0) by rw [qto_zero, ← hlo]; exact hq5)
      have HB5 := Lib.hid hb5
      have HLO := Lib.hid hlo
      clear hrs hrc hru hrn hq5 hb5 hal1 hlo
      go_wp2_with (at_builtin; refine wpList_append_run rfl _ _ 31 rfl rfl rfl hrun ?_)
      clear hV1 hrun m0 m1 s0 s1
      go_loopw [8] (fun i wx => ∃ k : Nat, k ≤ rn ∧ i = .int .i64 k ∧ Hid (Qc wz.heap.size lo wx (.slice ga rn gc) (qto rs k)) ∧ Hid (Below lo w5 wx)) (fun i _ => rn - (intOf i).toNat)
      case atStart => exact ⟨0, by omega, rfl, HQ5, Lib.hid (Below.refl _ _)⟩
      case round =>
        clear HQ5
        obtain ⟨k, hk, rfl, HC, HBX⟩ := hrel
        by_cases hkn : k < rn
        · have j1 : (k : Int) < (rn : Int) := by omega
          have j2 : (0 : Int) ≤ (k : Int) := by omega
          obtain ⟨r, hr⟩ : ∃ r, rs[k]? = some r := ⟨_, List.getElem?_eq_getElem (by rw [HRN.out]; exact hkn)⟩
          obtain ⟨hq1, hq2⟩ := qto_at hr
          obtain ⟨g, hga, hg1, hg2, ca, fa⟩ := HC.out.act hq1
          subst hga
          have HQ2 := Lib.hid hq2
          obtain ⟨act, hact⟩ : ∃ act, r.act = act := ⟨_, rfl⟩
          rw [hact] at ca
          have HQ1 := Lib.hid hq1
          have HACT := Lib.hid hact
          clear hr hq1 hq2 hact
          by_cases h1 : act = 1
          · subst h1
            have HC2 := Lib.hid (show Qc wz.heap.size lo (wr.setCell ⟨g, k * 3 + 1, none⟩ (.int .i64 5)) (.slice (some ⟨g, 0, none⟩) rn gc) (qto rs (k + 1)) by rw [HQ2.out]; exact HC.out.set (by have := HLO.out; have := HB.out.size; omega) HQ1.out (.inl HACT.out))
            have HB2 := Lib.hid (show Below lo w5 (wr.setCell ⟨g, k * 3 + 1, none⟩ (.int .i64 5)) from HBX.out.trans (Below.setCell (p := ⟨g, k * 3 + 1, none⟩) (Below.refl _ _) hg1 _))
            go_wp2
            go_roundw
            case rel => exact ⟨k + 1, by omega, by go_num, HC2, HB2⟩
            case measure => simp [intOf]; omega
          · by_cases h2 : act = 2
            · subst h2
              have HC2 := Lib.hid (show Qc wz.heap.size lo (wr.setCell ⟨g, k * 3 + 1, none⟩ (.int .i64 5)) (.slice (some ⟨g, 0, none⟩) rn gc) (qto rs (k + 1)) by rw [HQ2.out]; exact HC.out.set (by have := HLO.out; have := HB.out.size; omega) HQ1.out (.inr HACT.out))
              have HB2 := Lib.hid (show Below lo w5 (wr.setCell ⟨g, k * 3 + 1, none⟩ (.int .i64 5)) from HBX.out.trans (Below.setCell (p := ⟨g, k * 3 + 1, none⟩) (Below.refl _ _) hg1 _))
              go_wp2
              go_roundw
              case rel => exact ⟨k + 1, by omega, by go_num, HC2, HB2⟩
              case measure => simp [intOf]; omega
            · have f1 : (act == 1) = false := by simpa using h1
              have f2 : (act == 2) = false := by simpa using h2
              have HC2 := Lib.hid (show Qc wz.heap.size lo wr (.slice (some ⟨g, 0, none⟩) rn gc) (qto rs (k + 1)) by
                rw [HQ2.out, quiet1_no (by rw [HACT.out]; exact h1) (by rw [HACT.out]; exact h2), set_sameq HQ1.out]
                exact HC.out)
              clear h1 h2
              go_wp2
              go_roundw
              case rel => exact ⟨k + 1, by omega, by go_num, HC2, HBX⟩
              case measure => simp [intOf]; omega
        · have j1 : ¬ (k : Int) < (rn : Int) := by omega
          have HCE := Lib.hid (show Qc wz.heap.size lo wr (.slice ga rn gc) (quietL rs) by have h9 := HC.out; rw [qto_all (by rw [HRN.out]; omega)] at h9; exact h9)
          have hxo := HQ.out.h
          have hxl := HQ.out.lt
          have HZ := Lib.hid HB5.out.size
          have hlo := HLO.out
          have HQX := Lib.hid (HQ.out.below (HB5.out.trans (HBX.out.mono (by omega))))
          have hzz : lo ≤ wr.heap.size := by have := HBX.out.size; have := HZ.out; omega
          have HU := Lib.hid (HCE.out.v (P := fun k => k = wz.heap.size ∨ some k = cv.ownBlock) (fun k hk => by
            rcases hk with e | e
            · omega
            · obtain ⟨vs, h1, -, -⟩ := HQ.out.ch
              have := World.ownsRow.lt h1 k e.symm
              omega))
          have hcl : (quiet (cs.take c)).length ≤ 1000 := by unfold quiet; rw [List.length_map, List.length_take]; omega
          obtain ⟨v6, w6, hrun, hc6, hf6, ⟨qa, qn, qc, hq6⟩, hx6, hb6⟩ := HQX.out.push (by omega) HU.out 23 hcl
          subst hq6
          have HQ6 := Lib.hid (show Qx wz.heap.size wz.heap.size acc (w6.setCell ⟨wz.heap.size, 0, none⟩ (.slice qa qn qc)) (.slice qa qn qc) (quiet (cs.take (c + 1))) by rw [quiet_snoc HRS.out]; exact hx6)
          have HB6 := Lib.hid ((HB.out.trans ((HB5.out.trans (HBX.out.mono (by omega))).mono (by omega))).trans hb6)
          obtain ⟨xa, xc, hxf⟩ := HQ.out.form
          generalize (quiet (cs.take c)).length = xn at hxf
          subst hxf
          have b0 := HQX.out.c0
          obtain ⟨V2, hV2⟩ : ∃ V2, wr.alloc (.cells #[.slice ga rn gc] 31) = V2 := ⟨_, rfl⟩
          have hal2 : Below wr.heap.size wr V2 := by rw [← hV2]; exact (Below.refl _ _).alloc (Nat.le_refl _) _
          rw [hV2] at hrun
          have b1 := (hal2.cell (p := ⟨wz.heap.size, 0, none⟩) (by simp only; omega)).trans b0
          clear hx6 hb6 hal2 hlo hxo
          go_wp2_with (at_builtin; refine wpList_append_run rfl _ _ 23 rfl rfl rfl hrun ?_)
          go_roundw
          case rel => exact ⟨c + 1, _, by omega, by go_num, HQ6, HB6⟩
          case measure => simp [intOf]; omega
    · have i1 : ¬ (c : Int) < (n : Int) := by omega
      have hq9 := HQ.out
      rw [List.take_of_length_le (show cs.length ≤ c by rw [HN.out]; omega)] at hq9
      have HZ := Lib.hid hq9
      obtain ⟨xa, xc, hxf⟩ := hq9.form
      obtain ⟨xn, hxn⟩ : ∃ xn, (quiet cs).length = xn := ⟨_, rfl⟩
      rw [hxn] at hxf
      subst hxf
      clear hq9 HQ s0 s1 rl r0 r1
      obtain ⟨hbr, hbe⟩ : ∃ h : Below wz.heap.size wz wr, h = HB.out := ⟨_, rfl⟩
      clear hbe
      have hw_wr := hw_wz.trans (hbr.mono hw_wz.size)
      clear hw_wz
      replace HS := Lib.hid (HS.out.below hbr)
      replace HT := Lib.hid (HT.out.below hbr)
      replace HCR := Lib.hid (C2u.bel HCR.out hbr)
      replace HP := Lib.hid (Box4.bel HP.out hbr)
      have HX := Lib.hid (HZ.out.rss)
      have HCX := Lib.hid (show C2u wr wz.heap.size (.slice xa xn xc) (.bool acc) from ⟨HZ.out.lt, HZ.out.c0, HZ.out.c1⟩)
      clear hbr HZ HB
      obtain ⟨q, hq⟩ : ∃ q, (ufRes (quiet cs) 6).isSome = q := ⟨_, rfl⟩
      have HQ := Lib.hid hq
      clear hq
      have xl := HCX.out.l
      have x0 := HCX.out.c0
      have x1 := HCX.out.c1
      have s0 := HCR.out.c0
      have sl := HCR.out.l
      have s1 := HCR.out.c1
      go_wp2_with fail
      refine (implUf_any (quiet cs) 6 acc _ _ HX.out HT.out (fun h => rs_six h) HQ.out).mono ?_
      rintro e w2 ⟨v9, rfl, ho9, hb_w2⟩
      have hw_w2 := hw_wr.trans (hb_w2.mono hw_wr.size)
      clear hw_wr
      replace HS := Lib.hid (HS.out.below hb_w2)
      replace HT := Lib.hid (HT.out.below hb_w2)
      replace HCR := Lib.hid (C2u.bel HCR.out hb_w2)
      replace HP := Lib.hid (Box4.bel HP.out hb_w2)
      replace HX := Lib.hid (HX.out.below hb_w2)
      replace HCX := Lib.hid (C2u.bel HCX.out hb_w2)
      have HL := Lib.hid (by have h9 := ho9.fts; rw [ufRes_quiet] at h9; exact h9.mono (Nat.zero_le _))
      clear hb_w2 ho9 xl x0 x1 s0 sl s1
      obtain ⟨la, lc, rfl, hlc_la, hcm_la⟩ := HL.out.form
      unfold maxLen at hcm_la
      rw [List.length_nil]
      have xl := HCX.out.l
      have x0 := HCX.out.c0
      have x1 := HCX.out.c1
      have rl := HCR.out.l
      have r0 := HCR.out.c0
      have r1 := HCR.out.c1
      obtain ⟨zl, z0, z1, z2, z3, -⟩ := HP.out
      obtain ⟨rv, hrv⟩ : ∃ rv, rsvalid cs = rv := ⟨_, rfl⟩
      obtain ⟨pv, hpv⟩ : ∃ pv, Pk.ok ⟨pa, pb, pc, pd⟩ = pv := ⟨_, rfl⟩
      have HV := Lib.hid hrv
      have HPV := Lib.hid hpv
      clear hrv hpv
      cases rv
      · go_wp2_with fail
        (refine wp_region_belH (W := w2) [BIs (.slice la 0 lc), BIs (.int .i64 0), BIs (.bool true), BIs (.bool true), BIs (.agg #[.slice sa n sc, .bool acc]), (BIs (.bool false)), BIs (.bool true), BIs (.bool true), BIs undef, BIs undef, BIs undef, BIs (.bool true), BIs (.bool true), BIs undef, BIs undef, BIs undef, BIs undef, BIs undef, BIs undef, BIs undef, BIs undef, BIs undef, BIs undef, BIs undef, BIs undef, BIs (.bool true), BIs (.bool true), BIs (.bool true), (BIs (.bool true)), BIs (.bool true), BIs (.bool true)] (by kernel_rfl) (fun u => by simp only [frU, Act.put, List.setIfInBounds_toArray, List.set_cons_succ, List.set_cons_zero, Nat.zero_add, Nat.reduceAdd]; exact rfl) (by kernel_rfl) ⟨bst_is _, bst_is _, bst_is _, bst_is _, bst_is _, (bst_is _), bst_is _, bst_is _, bst_is _, bst_is _, bst_is _, bst_is _, bst_is _, bst_is _, bst_is _, bst_is _, bst_is _, bst_is _, bst_is _, bst_is _, bst_is _, bst_is _, bst_is _, bst_is _, bst_is _, bst_is _, bst_is _, bst_is _, (bst_is _), bst_is _, bst_is _, trivial⟩ ?_ ?_; exact ⟨stH (fun u w3 hC hd => .inl ⟨rfl, fun Q K hK => by (go_step; exact hK _ _ rfl (Below.refl _ _) rfl)⟩), stH (fun u w3 hC hd => .inl ⟨rfl, fun Q K hK => by (have hu := bis (w := w3) (hd 0 rfl); rw [hu] at hK ⊢; clear hu; go_step; exact hK _ _ rfl (Below.refl _ _) rfl)⟩), stH (fun u w3 hC hd => .inl ⟨rfl, fun Q K hK => by (have hu := bis (w := w3) (hd 1 rfl); rw [hu] at hK ⊢; clear hu; go_step; exact hK _ _ rfl (Below.refl _ _) rfl)⟩), stH (fun u w3 hC hd => .inl ⟨rfl, fun Q K hK => by (have hu := bis (w := w3) (hd 2 rfl); rw [hu] at hK ⊢; clear hu; go_step; exact hK _ _ rfl (Below.refl _ _) rfl)⟩), stH (fun u w3 hC hd => .inl ⟨by (have hu := bis (w := w3) (hd 3 rfl); rw [hu]; rfl), fun Q K hK => by (have e0 := (hC.cell (p := ⟨w1.heap.size, 0, none⟩) rl).trans r0; have e1 := (hC.cell (p := ⟨w1.heap.size, 1, none⟩) rl).trans r1; go_step; exact hK _ _ rfl (Below.refl _ _) rfl)⟩), stH (fun u w3 hC hd => .inl ⟨by (have hu := bis (w := w3) (hd 3 rfl); rw [hu]; rfl), fun Q K hK => by (have hu := bis (w := w3) (hd 4 rfl); rw [hu] at hK ⊢; clear hu; go_step; refine (specRstV_b (HS.out.below hC) HV.out).mono ?_; rintro e w4 ⟨rfl, hb4⟩; exact hK _ _ rfl hb4 rfl)⟩), stH (fun u w3 hC hd => .inl ⟨by (have hu := bis (w := w3) (hd 3 rfl); rw [hu]; rfl), fun Q K hK => by (have hu := bis (w := w3) (hd 5 rfl); rw [hu] at hK ⊢; clear hu; go_step; exact hK _ _ rfl (Below.refl _ _) rfl)⟩), stH (fun u w3 hC hd => .inl ⟨by (have hu := bis (w := w3) (hd 3 rfl); rw [hu]; rfl), fun Q K hK => by (have hu := bis (w := w3) (hd 6 rfl); rw [hu] at hK ⊢; clear hu; go_step; exact hK _ _ rfl (Below.refl _ _) rfl)⟩), stH (fun u w3 hC hd => .inr ⟨by (have hu := bis (w := w3) (hd 7 rfl); rw [hu]; rfl), rfl⟩), stH (fun u w3 hC hd => .inr ⟨by (have hu := bis (w := w3) (hd 7 rfl); rw [hu]; rfl), rfl⟩), stH (fun u w3 hC hd => .inr ⟨by (have hu := bis (w := w3) (hd 7 rfl); rw [hu]; rfl), rfl⟩), stH (fun u w3 hC hd => .inl ⟨by (have hu := bis (w := w3) (hd 3 rfl); rw [hu]; rfl), fun Q K hK => by (have hu := bis (w := w3) (hd 7 rfl); rw [hu] at hK ⊢; clear hu; go_step; exact hK _ _ rfl (Below.refl _ _) rfl)⟩), stH (fun u w3 hC hd => .inl ⟨by (have hu := bis (w := w3) (hd 3 rfl); rw [hu]; rfl), fun Q K hK => by (have hu := bis (w := w3) (hd 11 rfl); rw [hu] at hK ⊢; clear hu; go_step; exact hK _ _ rfl (Below.refl _ _) rfl)⟩), stH (fun u w3 hC hd => .inr ⟨by (have hu := bis (w := w3) (hd 12 rfl); rw [hu]; rfl), rfl⟩), stH (fun u w3 hC hd => .inr ⟨by (have hu := bis (w := w3) (hd 12 rfl); rw [hu]; rfl), rfl⟩), stH (fun u w3 hC hd => .inr ⟨by (have hu := bis (w := w3) (hd 12 rfl); rw [hu]; rfl), rfl⟩), stH (fun u w3 hC hd => .inr ⟨by (have hu := bis (w := w3) (hd 12 rfl); rw [hu]; rfl), rfl⟩), stH (fun u w3 hC hd => .inr ⟨by (have hu := bis (w := w3) (hd 12 rfl); rw [hu]; rfl), rfl⟩), stH (fun u w3 hC hd => .inr ⟨by (have hu := bis (w := w3) (hd 12 rfl); rw [hu]; rfl), rfl⟩), stH (fun u w3 hC hd => .inr ⟨by (have hu := bis (w := w3) (hd 12 rfl); rw [hu]; rfl), rfl⟩), stH (fun u w3 hC hd => .inr ⟨by (have hu := bis (w := w3) (hd 19 rfl); rw [hu]; rfl), rfl⟩), stH (fun u w3 hC hd => .inr ⟨by (have hu := bis (w := w3) (hd 19 rfl); rw [hu]; rfl), rfl⟩), stH (fun u w3 hC hd => .inr ⟨by (have hu := bis (w := w3) (hd 19 rfl); rw [hu]; rfl), rfl⟩), stH (fun u w3 hC hd => .inr ⟨by (have hu := bis (w := w3) (hd 19 rfl); rw [hu]; rfl), rfl⟩), stH (fun u w3 hC hd => .inr ⟨by (have hu := bis (w := w3) (hd 12 rfl); rw [hu]; rfl), rfl⟩), stH (fun u w3 hC hd => .inl ⟨by (have hu := bis (w := w3) (hd 3 rfl); rw [hu]; rfl), fun Q K hK => by (have hu := bis (w := w3) (hd 12 rfl); rw [hu] at hK ⊢; clear hu; go_step; exact hK _ _ rfl (Below.refl _ _) rfl)⟩), stH (fun u w3 hC hd => .inl ⟨rfl, fun Q K hK => by (have hu := bis (w := w3) (hd 3 rfl); rw [hu] at hK ⊢; clear hu; have hu := bis (w := w3) (hd 25 rfl); rw [hu] at hK ⊢; clear hu; go_step; exact hK _ _ rfl (Below.refl _ _) rfl)⟩), stH (fun u w3 hC hd => .inl ⟨rfl, fun Q K hK => by (have hu := bis (w := w3) (hd 26 rfl); rw [hu] at hK ⊢; clear hu; go_step; exact hK _ _ rfl (Below.refl _ _) rfl)⟩), stH (fun u w3 hC hd => .inl ⟨by (have hu := bis (w := w3) (hd 27 rfl); rw [hu]; rfl), fun Q K hK => by (go_step; refine (alive_any _).mono ?_; rintro e w4 ⟨rfl, hb4⟩; exact hK _ _ rfl hb4 rfl)⟩), stH (fun u w3 hC hd => .inl ⟨rfl, fun Q K hK => by (have hu := bis (w := w3) (hd 27 rfl); rw [hu] at hK ⊢; clear hu; have hu := bis (w := w3) (hd 28 rfl); rw [hu] at hK ⊢; clear hu; go_step; exact hK _ _ rfl (Below.refl _ _) rfl)⟩), stH (fun u w3 hC hd => .inl ⟨rfl, fun Q K hK => by (have hu := bis (w := w3) (hd 29 rfl); rw [hu] at hK ⊢; clear hu; go_step; exact hK _ _ rfl (Below.refl _ _) rfl)⟩), trivial⟩); intro u wy hb_wy hF; rw [bis (w := wy) (hF 0 (by decide))]; rw [bis (w := wy) (hF 1 (by decide))]; rw [bis (w := wy) (hF 2 (by decide))]; rw [bis (w := wy) (hF 3 (by decide))]; rw [bis (w := wy) (hF 4 (by decide))]; generalize u 5 = vx5 at *; rw [bis (w := wy) (hF 6 (by decide))]; rw [bis (w := wy) (hF 7 (by decide))]; rw [bis (w := wy) (hF 8 (by decide))]; rw [bis (w := wy) (hF 9 (by decide))]; rw [bis (w := wy) (hF 10 (by decide))]; rw [bis (w := wy) (hF 11 (by decide))]; rw [bis (w := wy) (hF 12 (by decide))]; rw [bis (w := wy) (hF 13 (by decide))]; rw [bis (w := wy) (hF 14 (by decide))]; rw [bis (w := wy) (hF 15 (by decide))]; rw [bis (w := wy) (hF 16 (by decide))]; rw [bis (w := wy) (hF 17 (by decide))]; rw [bis (w := wy) (hF 18 (by decide))]; rw [bis (w := wy) (hF 19 (by decide))]; rw [bis (w := wy) (hF 20 (by decide))]; rw [bis (w := wy) (hF 21 (by decide))]; rw [bis (w := wy) (hF 22 (by decide))]; rw [bis (w := wy) (hF 23 (by decide))]; rw [bis (w := wy) (hF 24 (by decide))]; rw [bis (w := wy) (hF 25 (by decide))]; rw [bis (w := wy) (hF 26 (by decide))]; rw [bis (w := wy) (hF 27 (by decide))]; generalize u 28 = vx28 at *; rw [bis (w := wy) (hF 29 (by decide))]; rw [bis (w := wy) (hF 30 (by decide))]; clear hF
        have hw_wy := hw_w2.trans (hb_wy.mono hw_w2.size)
        clear hw_w2
        replace HS := Lib.hid (HS.out.below hb_wy)
        replace HT := Lib.hid (HT.out.below hb_wy)
        replace HCR := Lib.hid (C2u.bel HCR.out hb_wy)
        replace HP := Lib.hid (Box4.bel HP.out hb_wy)
        replace HX := Lib.hid (HX.out.below hb_wy)
        replace HCX := Lib.hid (C2u.bel HCX.out hb_wy)
        replace HL := Lib.hid (HL.out.below hb_wy)
        go_wp2
        go_ret
        exact ⟨rfl, hw_wy⟩
      · cases pv
        · go_wp2_with fail
          (refine wp_region_belH (W := w2) [BIs (.slice la 0 lc), BIs (.int .i64 0), BIs (.bool true), BIs (.bool true), BIs (.agg #[.slice sa n sc, .bool acc]), (BIs (.bool true)), BIs (.bool false), BIs (.bool false), BIs (.agg #[.int .i64 pa, .int .i64 pb, .int .i64 pc, .int .i64 pd]), (BIs (.bool false)), BIs (.bool true), BIs (.bool true), BIs (.bool true), BIs undef, BIs undef, BIs undef, BIs undef, BIs undef, BIs undef, BIs undef, BIs undef, BIs undef, BIs undef, BIs undef, BIs undef, BIs (.bool true), BIs (.bool true), BIs (.bool true), (BIs (.bool true)), BIs (.bool true), BIs (.bool true)] (by kernel_rfl) (fun u => by simp only [frU, Act.put, List.setIfInBounds_toArray, List.set_cons_succ, List.set_cons_zero, Nat.zero_add, Nat.reduceAdd]; exact rfl) (by kernel_rfl) ⟨bst_is _, bst_is _, bst_is _, bst_is _, bst_is _, (bst_is _), bst_is _, bst_is _, bst_is _, (bst_is _), bst_is _, bst_is _, bst_is _, bst_is _, bst_is _, bst_is _, bst_is _, bst_is _, bst_is _, bst_is _, bst_is _, bst_is _, bst_is _, bst_is _, bst_is _, bst_is _, bst_is _, bst_is _, (bst_is _), bst_is _, bst_is _, trivial⟩ ?_ ?_; exact ⟨stH (fun u w3 hC hd => .inl ⟨rfl, fun Q K hK => by (go_step; exact hK _ _ rfl (Below.refl _ _) rfl)⟩), stH (fun u w3 hC hd => .inl ⟨rfl, fun Q K hK => by (have hu := bis (w := w3) (hd 0 rfl); rw [hu] at hK ⊢; clear hu; go_step; exact hK _ _ rfl (Below.refl _ _) rfl)⟩), stH (fun u w3 hC hd => .inl ⟨rfl, fun Q K hK => by (have hu := bis (w := w3) (hd 1 rfl); rw [hu] at hK ⊢; clear hu; go_step; exact hK _ _ rfl (Below.refl _ _) rfl)⟩), stH (fun u w3 hC hd => .inl ⟨rfl, fun Q K hK => by (have hu := bis (w := w3) (hd 2 rfl); rw [hu] at hK ⊢; clear hu; go_step; exact hK _ _ rfl (Below.refl _ _) rfl)⟩), stH (fun u w3 hC hd => .inl ⟨by (have hu := bis (w := w3) (hd 3 rfl); rw [hu]; rfl), fun Q K hK => by (have e0 := (hC.cell (p := ⟨w1.heap.size, 0, none⟩) rl).trans r0; have e1 := (hC.cell (p := ⟨w1.heap.size, 1, none⟩) rl).trans r1; go_step; exact hK _ _ rfl (Below.refl _ _) rfl)⟩), stH (fun u w3 hC hd => .inl ⟨by (have hu := bis (w := w3) (hd 3 rfl); rw [hu]; rfl), fun Q K hK => by (have hu := bis (w := w3) (hd 4 rfl); rw [hu] at hK ⊢; clear hu; go_step; refine (specRstV_b (HS.out.below hC) HV.out).mono ?_; rintro e w4 ⟨rfl, hb4⟩; exact hK _ _ rfl hb4 rfl)⟩), stH (fun u w3 hC hd => .inl ⟨by (have hu := bis (w := w3) (hd 3 rfl); rw [hu]; rfl), fun Q K hK => by (have hu := bis (w := w3) (hd 5 rfl); rw [hu] at hK ⊢; clear hu; go_step; exact hK _ _ rfl (Below.refl _ _) rfl)⟩), stH (fun u w3 hC hd => .inl ⟨by (have hu := bis (w := w3) (hd 3 rfl); rw [hu]; rfl), fun Q K hK => by (have hu := bis (w := w3) (hd 6 rfl); rw [hu] at hK ⊢; clear hu; go_step; exact hK _ _ rfl (Below.refl _ _) rfl)⟩), stH (fun u w3 hC hd => .inl ⟨by (have hu := bis (w := w3) (hd 7 rfl); rw [hu]; rfl), fun Q K hK => by (have e0 := (hC.cell (p := ⟨w1.heap.size + 1, 0, none⟩) zl).trans z0; have e1 := (hC.cell (p := ⟨w1.heap.size + 1, 1, none⟩) zl).trans z1; have e2 := (hC.cell (p := ⟨w1.heap.size + 1, 2, none⟩) zl).trans z2; have e3 := (hC.cell (p := ⟨w1.heap.size + 1, 3, none⟩) zl).trans z3; go_step; exact hK _ _ rfl (Below.refl _ _) rfl)⟩), stH (fun u w3 hC hd => .inl ⟨by (have hu := bis (w := w3) (hd 7 rfl); rw [hu]; rfl), fun Q K hK => by (have hu := bis (w := w3) (hd 8 rfl); rw [hu] at hK ⊢; clear hu; go_step; refine (specPV_b HPV.out _).mono ?_; rintro e w4 ⟨rfl, hb4⟩; exact hK _ _ rfl hb4 rfl)⟩), stH (fun u w3 hC hd => .inl ⟨by (have hu := bis (w := w3) (hd 7 rfl); rw [hu]; rfl), fun Q K hK => by (have hu := bis (w := w3) (hd 9 rfl); rw [hu] at hK ⊢; clear hu; go_step; exact hK _ _ rfl (Below.refl _ _) rfl)⟩), stH (fun u w3 hC hd => .inl ⟨by (have hu := bis (w := w3) (hd 3 rfl); rw [hu]; rfl), fun Q K hK => by (have hu := bis (w := w3) (hd 7 rfl); rw [hu] at hK ⊢; clear hu; have hu := bis (w := w3) (hd 10 rfl); rw [hu] at hK ⊢; clear hu; go_step; exact hK _ _ rfl (Below.refl _ _) rfl)⟩), stH (fun u w3 hC hd => .inl ⟨by (have hu := bis (w := w3) (hd 3 rfl); rw [hu]; rfl), fun Q K hK => by (have hu := bis (w := w3) (hd 11 rfl); rw [hu] at hK ⊢; clear hu; go_step; exact hK _ _ rfl (Below.refl _ _) rfl)⟩), stH (fun u w3 hC hd => .inr ⟨by (have hu := bis (w := w3) (hd 12 rfl); rw [hu]; rfl), rfl⟩), stH (fun u w3 hC hd => .inr ⟨by (have hu := bis (w := w3) (hd 12 rfl); rw [hu]; rfl), rfl⟩), stH (fun u w3 hC hd => .inr ⟨by (have hu := bis (w := w3) (hd 12 rfl); rw [hu]; rfl), rfl⟩), stH (fun u w3 hC hd => .inr ⟨by (have hu := bis (w := w3) (hd 12 rfl); rw [hu]; rfl), rfl⟩), stH (fun u w3 hC hd => .inr ⟨by (have hu := bis (w := w3) (hd 12 rfl); rw [hu]; rfl), rfl⟩), stH (fun u w3 hC hd => .inr ⟨by (have hu := bis (w := w3) (hd 12 rfl); rw [hu]; rfl), rfl⟩), stH (fun u w3 hC hd => .inr ⟨by (have hu := bis (w := w3) (hd 12 rfl); rw [hu]; rfl), rfl⟩), stH (fun u w3 hC hd => .inr ⟨by (have hu := bis (w := w3) (hd 19 rfl); rw [hu]; rfl), rfl⟩), stH (fun u w3 hC hd => .inr ⟨by (have hu := bis (w := w3) (hd 19 rfl); rw [hu]; rfl), rfl⟩), stH (fun u w3 hC hd => .inr ⟨by (have hu := bis (w := w3) (hd 19 rfl); rw [hu]; rfl), rfl⟩), stH (fun u w3 hC hd => .inr ⟨by (have hu := bis (w := w3) (hd 19 rfl); rw [hu]; rfl), rfl⟩), stH (fun u w3 hC hd => .inr ⟨by (have hu := bis (w := w3) (hd 12 rfl); rw [hu]; rfl), rfl⟩), stH (fun u w3 hC hd => .inl ⟨by (have hu := bis (w := w3) (hd 3 rfl); rw [hu]; rfl), fun Q K hK => by (have hu := bis (w := w3) (hd 12 rfl); rw [hu] at hK ⊢; clear hu; go_step; exact hK _ _ rfl (Below.refl _ _) rfl)⟩), stH (fun u w3 hC hd => .inl ⟨rfl, fun Q K hK => by (have hu := bis (w := w3) (hd 3 rfl); rw [hu] at hK ⊢; clear hu; have hu := bis (w := w3) (hd 25 rfl); rw [hu] at hK ⊢; clear hu; go_step; exact hK _ _ rfl (Below.refl _ _) rfl)⟩), stH (fun u w3 hC hd => .inl ⟨rfl, fun Q K hK => by (have hu := bis (w := w3) (hd 26 rfl); rw [hu] at hK ⊢; clear hu; go_step; exact hK _ _ rfl (Below.refl _ _) rfl)⟩), stH (fun u w3 hC hd => .inl ⟨by (have hu := bis (w := w3) (hd 27 rfl); rw [hu]; rfl), fun Q K hK => by (go_step; refine (alive_any _).mono ?_; rintro e w4 ⟨rfl, hb4⟩; exact hK _ _ rfl hb4 rfl)⟩), stH (fun u w3 hC hd => .inl ⟨rfl, fun Q K hK => by (have hu := bis (w := w3) (hd 27 rfl); rw [hu] at hK ⊢; clear hu; have hu := bis (w := w3) (hd 28 rfl); rw [hu] at hK ⊢; clear hu; go_step; exact hK _ _ rfl (Below.refl _ _) rfl)⟩), stH (fun u w3 hC hd => .inl ⟨rfl, fun Q K hK => by (have hu := bis (w := w3) (hd 29 rfl); rw [hu] at hK ⊢; clear hu; go_step; exact hK _ _ rfl (Below.refl _ _) rfl)⟩), trivial⟩); intro u wy hb_wy hF; rw [bis (w := wy) (hF 0 (by decide))]; rw [bis (w := wy) (hF 1 (by decide))]; rw [bis (w := wy) (hF 2 (by decide))]; rw [bis (w := wy) (hF 3 (by decide))]; rw [bis (w := wy) (hF 4 (by decide))]; generalize u 5 = vx5 at *; rw [bis (w := wy) (hF 6 (by decide))]; rw [bis (w := wy) (hF 7 (by decide))]; rw [bis (w := wy) (hF 8 (by decide))]; generalize u 9 = vx9 at *; rw [bis (w := wy) (hF 10 (by decide))]; rw [bis (w := wy) (hF 11 (by decide))]; rw [bis (w := wy) (hF 12 (by decide))]; rw [bis (w := wy) (hF 13 (by decide))]; rw [bis (w := wy) (hF 14 (by decide))]; rw [bis (w := wy) (hF 15 (by decide))]; rw [bis (w := wy) (hF 16 (by decide))]; rw [bis (w := wy) (hF 17 (by decide))]; rw [bis (w := wy) (hF 18 (by decide))]; rw [bis (w := wy) (hF 19 (by decide))]; rw [bis (w := wy) (hF 20 (by decide))]; rw [bis (w := wy) (hF 21 (by decide))]; rw [bis (w := wy) (hF 22 (by decide))]; rw [bis (w := wy) (hF 23 (by decide))]; rw [bis (w := wy) (hF 24 (by decide))]; rw [bis (w := wy) (hF 25 (by decide))]; rw [bis (w := wy) (hF 26 (by decide))]; rw [bis (w := wy) (hF 27 (by decide))]; generalize u 28 = vx28 at *; rw [bis (w := wy) (hF 29 (by decide))]; rw [bis (w := wy) (hF 30 (by decide))]; clear hF
          have hw_wy := hw_w2.trans (hb_wy.mono hw_w2.size)
          clear hw_w2
          replace HS := Lib.hid (HS.out.below hb_wy)
          replace HT := Lib.hid (HT.out.below hb_wy)
          replace HCR := Lib.hid (C2u.bel HCR.out hb_wy)
          replace HP := Lib.hid (Box4.bel HP.out hb_wy)
          replace HX := Lib.hid (HX.out.below hb_wy)
          replace HCX := Lib.hid (C2u.bel HCX.out hb_wy)
          replace HL := Lib.hid (HL.out.below hb_wy)
          go_wp2
          go_ret
          exact ⟨rfl, hw_wy⟩
        · have HJX := Lib.hid (show jd (quiet cs) 6 acc ⟨pa, pb, pc, pd⟩ = acc by rw [jd_quiet, HV.out, HPV.out]; rfl)
          have HVX := Lib.hid (show rsvalid (quiet cs) = true by rw [rsvalid_quiet]; exact HV.out)
          go_wp2_with fail
          (refine wp_region_belG (W := w2) [BIs (.slice la 0 lc), BIs (.int .i64 0), BIs (.bool true), BIs (.bool true), BIs (.agg #[.slice sa n sc, .bool acc]), (BIs (.bool true)), BIs (.bool false), BIs (.bool false), BIs (.agg #[.int .i64 pa, .int .i64 pb, .int .i64 pc, .int .i64 pd]), (BIs (.bool true)), BIs (.bool false), BIs (.bool false), BIs (.bool false), BIs (.agg #[.slice xa xn xc, .bool acc]), BIs (.agg #[.int .i64 pa, .int .i64 pb, .int .i64 pc, .int .i64 pd]), (BIs (.bool acc)), BIs (.pointer (some ⟨w1.heap.size, 1, none⟩)), BIs (.bool acc), (BIs (.bool true)), BIs (.bool true), BIs (.agg #[.slice xa xn xc, .bool acc]), BIs (.agg #[.int .i64 pa, .int .i64 pb, .int .i64 pc, .int .i64 pd]), (BIs (.int .i64 5)), BIs (.bool true), BIs (.bool true), BIs (.bool true), BIs (.bool true), BIs (.bool true), (BIs (.bool true)), BIs (.bool true), BIs (.bool true)] (by kernel_rfl) (fun u => by simp only [frU, Act.put, List.setIfInBounds_toArray, List.set_cons_succ, List.set_cons_zero, Nat.zero_add, Nat.reduceAdd]; exact rfl) (by kernel_rfl) ⟨bst_is _, bst_is _, bst_is _, bst_is _, bst_is _, (bst_is _), bst_is _, bst_is _, bst_is _, (bst_is _), bst_is _, bst_is _, bst_is _, bst_is _, bst_is _, (bst_is _), bst_is _, bst_is _, (bst_is _), bst_is _, bst_is _, bst_is _, (bst_is _), bst_is _, bst_is _, bst_is _, bst_is _, bst_is _, (bst_is _), bst_is _, bst_is _, trivial⟩ ?_ ?_; exact ⟨stG (fun u w3 hC hd => ⟨rfl, fun Q K hK => by (go_step; exact hK _ _ rfl (Below.refl _ _) rfl)⟩), stG (fun u w3 hC hd => ⟨rfl, fun Q K hK => by (have hu := bis (w := w3) (hd 0 rfl); rw [hu] at hK ⊢; clear hu; go_step; exact hK _ _ rfl (Below.refl _ _) rfl)⟩), stG (fun u w3 hC hd => ⟨rfl, fun Q K hK => by (have hu := bis (w := w3) (hd 1 rfl); rw [hu] at hK ⊢; clear hu; go_step; exact hK _ _ rfl (Below.refl _ _) rfl)⟩), stG (fun u w3 hC hd => ⟨rfl, fun Q K hK => by (have hu := bis (w := w3) (hd 2 rfl); rw [hu] at hK ⊢; clear hu; go_step; exact hK _ _ rfl (Below.refl _ _) rfl)⟩), stG (fun u w3 hC hd => ⟨by (have hu := bis (w := w3) (hd 3 rfl); rw [hu]; rfl), fun Q K hK => by (have e0 := (hC.cell (p := ⟨w1.heap.size, 0, none⟩) rl).trans r0; have e1 := (hC.cell (p := ⟨w1.heap.size, 1, none⟩) rl).trans r1; go_step; exact hK _ _ rfl (Below.refl _ _) rfl)⟩), stG (fun u w3 hC hd => ⟨by (have hu := bis (w := w3) (hd 3 rfl); rw [hu]; rfl), fun Q K hK => by (have hu := bis (w := w3) (hd 4 rfl); rw [hu] at hK ⊢; clear hu; go_step; refine (specRstV_b (HS.out.below hC) HV.out).mono ?_; rintro e w4 ⟨rfl, hb4⟩; exact hK _ _ rfl hb4 rfl)⟩), stG (fun u w3 hC hd => ⟨by (have hu := bis (w := w3) (hd 3 rfl); rw [hu]; rfl), fun Q K hK => by (have hu := bis (w := w3) (hd 5 rfl); rw [hu] at hK ⊢; clear hu; go_step; exact hK _ _ rfl (Below.refl _ _) rfl)⟩), stG (fun u w3 hC hd => ⟨by (have hu := bis (w := w3) (hd 3 rfl); rw [hu]; rfl), fun Q K hK => by (have hu := bis (w := w3) (hd 6 rfl); rw [hu] at hK ⊢; clear hu; go_step; exact hK _ _ rfl (Below.refl _ _) rfl)⟩), stG (fun u w3 hC hd => ⟨by (have hu := bis (w := w3) (hd 7 rfl); rw [hu]; rfl), fun Q K hK => by (have e0 := (hC.cell (p := ⟨w1.heap.size + 1, 0, none⟩) zl).trans z0; have e1 := (hC.cell (p := ⟨w1.heap.size + 1, 1, none⟩) zl).trans z1; have e2 := (hC.cell (p := ⟨w1.heap.size + 1, 2, none⟩) zl).trans z2; have e3 := (hC.cell (p := ⟨w1.heap.size + 1, 3, none⟩) zl).trans z3; go_step; exact hK _ _ rfl (Below.refl _ _) rfl)⟩), stG (fun u w3 hC hd => ⟨by (have hu := bis (w := w3) (hd 7 rfl); rw [hu]; rfl), fun Q K hK => by (have hu := bis (w := w3) (hd 8 rfl); rw [hu] at hK ⊢; clear hu; go_step; refine (specPV_b HPV.out _).mono ?_; rintro e w4 ⟨rfl, hb4⟩; exact hK _ _ rfl hb4 rfl)⟩), stG (fun u w3 hC hd => ⟨by (have hu := bis (w := w3) (hd 7 rfl); rw [hu]; rfl), fun Q K hK => by (have hu := bis (w := w3) (hd 9 rfl); rw [hu] at hK ⊢; clear hu; go_step; exact hK _ _ rfl (Below.refl _ _) rfl)⟩), stG (fun u w3 hC hd => ⟨by (have hu := bis (w := w3) (hd 3 rfl); rw [hu]; rfl), fun Q K hK => by (have hu := bis (w := w3) (hd 7 rfl); rw [hu] at hK ⊢; clear hu; have hu := bis (w := w3) (hd 10 rfl); rw [hu] at hK ⊢; clear hu; go_step; exact hK _ _ rfl (Below.refl _ _) rfl)⟩), stG (fun u w3 hC hd => ⟨by (have hu := bis (w := w3) (hd 3 rfl); rw [hu]; rfl), fun Q K hK => by (have hu := bis (w := w3) (hd 11 rfl); rw [hu] at hK ⊢; clear hu; go_step; exact hK _ _ rfl (Below.refl _ _) rfl)⟩), stG (fun u w3 hC hd => ⟨by (have hu := bis (w := w3) (hd 12 rfl); rw [hu]; rfl), fun Q K hK => by (have e0 := (hC.cell (p := ⟨wz.heap.size, 0, none⟩) xl).trans x0; have e1 := (hC.cell (p := ⟨wz.heap.size, 1, none⟩) xl).trans x1; go_step; exact hK _ _ rfl (Below.refl _ _) rfl)⟩), stG (fun u w3 hC hd => ⟨by (have hu := bis (w := w3) (hd 12 rfl); rw [hu]; rfl), fun Q K hK => by (have e0 := (hC.cell (p := ⟨w1.heap.size + 1, 0, none⟩) zl).trans z0; have e1 := (hC.cell (p := ⟨w1.heap.size + 1, 1, none⟩) zl).trans z1; have e2 := (hC.cell (p := ⟨w1.heap.size + 1, 2, none⟩) zl).trans z2; have e3 := (hC.cell (p := ⟨w1.heap.size + 1, 3, none⟩) zl).trans z3; go_step; exact hK _ _ rfl (Below.refl _ _) rfl)⟩), stG (fun u w3 hC hd => ⟨by (have hu := bis (w := w3) (hd 12 rfl); rw [hu]; rfl), fun Q K hK => by (have hu := bis (w := w3) (hd 13 rfl); rw [hu] at hK ⊢; clear hu; have hu := bis (w := w3) (hd 14 rfl); rw [hu] at hK ⊢; clear hu; go_step; refine (implJudge_b (HX.out.below hC) (HT.out.below hC) HJX.out).mono ?_; rintro e w4 ⟨rfl, hb4⟩; exact hK _ _ rfl hb4 rfl)⟩), stG (fun u w3 hC hd => ⟨by (have hu := bis (w := w3) (hd 12 rfl); rw [hu]; rfl), fun Q K hK => by (go_step; exact hK _ _ rfl (Below.refl _ _) rfl)⟩), stG (fun u w3 hC hd => ⟨by (have hu := bis (w := w3) (hd 12 rfl); rw [hu]; rfl), fun Q K hK => by (have hu := bis (w := w3) (hd 16 rfl); rw [hu] at hK ⊢; clear hu; have e1 := (hC.cell (p := ⟨w1.heap.size, 1, none⟩) rl).trans r1; go_step; exact hK _ _ rfl (Below.refl _ _) rfl)⟩), stG (fun u w3 hC hd => ⟨by (have hu := bis (w := w3) (hd 12 rfl); rw [hu]; rfl), fun Q K hK => by (have hu := bis (w := w3) (hd 15 rfl); rw [hu] at hK ⊢; clear hu; have hu := bis (w := w3) (hd 17 rfl); rw [hu] at hK ⊢; clear hu; (go_step; exact hK _ _ rfl (Below.refl _ _) (by first | rfl | (cases acc <;> rfl))))⟩), stG (fun u w3 hC hd => ⟨by (have hu := bis (w := w3) (hd 12 rfl); rw [hu]; rfl), fun Q K hK => by (have hu := bis (w := w3) (hd 18 rfl); rw [hu] at hK ⊢; clear hu; go_step; exact hK _ _ rfl (Below.refl _ _) rfl)⟩), stG (fun u w3 hC hd => ⟨by (have hu := bis (w := w3) (hd 19 rfl); rw [hu]; rfl), fun Q K hK => by (have e0 := (hC.cell (p := ⟨wz.heap.size, 0, none⟩) xl).trans x0; have e1 := (hC.cell (p := ⟨wz.heap.size, 1, none⟩) xl).trans x1; go_step; exact hK _ _ rfl (Below.refl _ _) rfl)⟩), stG (fun u w3 hC hd => ⟨by (have hu := bis (w := w3) (hd 19 rfl); rw [hu]; rfl), fun Q K hK => by (have e0 := (hC.cell (p := ⟨w1.heap.size + 1, 0, none⟩) zl).trans z0; have e1 := (hC.cell (p := ⟨w1.heap.size + 1, 1, none⟩) zl).trans z1; have e2 := (hC.cell (p := ⟨w1.heap.size + 1, 2, none⟩) zl).trans z2; have e3 := (hC.cell (p := ⟨w1.heap.size + 1, 3, none⟩) zl).trans z3; go_step; exact hK _ _ rfl (Below.refl _ _) rfl)⟩), stG (fun u w3 hC hd => ⟨by (have hu := bis (w := w3) (hd 19 rfl); rw [hu]; rfl), fun Q K hK => by (have hu := bis (w := w3) (hd 20 rfl); rw [hu] at hK ⊢; clear hu; have hu := bis (w := w3) (hd 21 rfl); rw [hu] at hK ⊢; clear hu; go_step; refine (implJBy_b (HX.out.below hC) (HT.out.below hC) HVX.out HPV.out (jwalk_quiet 6 0)).mono ?_; rintro e w4 ⟨rfl, hb4⟩; exact hK _ _ rfl hb4 rfl)⟩), stG (fun u w3 hC hd => ⟨by (have hu := bis (w := w3) (hd 19 rfl); rw [hu]; rfl), fun Q K hK => by (have hu := bis (w := w3) (hd 22 rfl); rw [hu] at hK ⊢; clear hu; go_step; exact hK _ _ rfl (Below.refl _ _) rfl)⟩), stG (fun u w3 hC hd => ⟨by (have hu := bis (w := w3) (hd 12 rfl); rw [hu]; rfl), fun Q K hK => by (have hu := bis (w := w3) (hd 19 rfl); rw [hu] at hK ⊢; clear hu; have hu := bis (w := w3) (hd 23 rfl); rw [hu] at hK ⊢; clear hu; go_step; exact hK _ _ rfl (Below.refl _ _) rfl)⟩), stG (fun u w3 hC hd => ⟨by (have hu := bis (w := w3) (hd 3 rfl); rw [hu]; rfl), fun Q K hK => by (have hu := bis (w := w3) (hd 12 rfl); rw [hu] at hK ⊢; clear hu; have hu := bis (w := w3) (hd 24 rfl); rw [hu] at hK ⊢; clear hu; go_step; exact hK _ _ rfl (Below.refl _ _) rfl)⟩), stG (fun u w3 hC hd => ⟨rfl, fun Q K hK => by (have hu := bis (w := w3) (hd 3 rfl); rw [hu] at hK ⊢; clear hu; have hu := bis (w := w3) (hd 25 rfl); rw [hu] at hK ⊢; clear hu; go_step; exact hK _ _ rfl (Below.refl _ _) rfl)⟩), stG (fun u w3 hC hd => ⟨rfl, fun Q K hK => by (have hu := bis (w := w3) (hd 26 rfl); rw [hu] at hK ⊢; clear hu; go_step; exact hK _ _ rfl (Below.refl _ _) rfl)⟩), stG (fun u w3 hC hd => ⟨by (have hu := bis (w := w3) (hd 27 rfl); rw [hu]; rfl), fun Q K hK => by (go_step; refine (alive_any _).mono ?_; rintro e w4 ⟨rfl, hb4⟩; exact hK _ _ rfl hb4 rfl)⟩), stG (fun u w3 hC hd => ⟨rfl, fun Q K hK => by (have hu := bis (w := w3) (hd 27 rfl); rw [hu] at hK ⊢; clear hu; have hu := bis (w := w3) (hd 28 rfl); rw [hu] at hK ⊢; clear hu; go_step; exact hK _ _ rfl (Below.refl _ _) rfl)⟩), stG (fun u w3 hC hd => ⟨rfl, fun Q K hK => by (have hu := bis (w := w3) (hd 29 rfl); rw [hu] at hK ⊢; clear hu; go_step; exact hK _ _ rfl (Below.refl _ _) rfl)⟩), trivial⟩); intro u wy hb_wy hF; rw [bis (w := wy) (hF 0 (by decide))]; rw [bis (w := wy) (hF 1 (by decide))]; rw [bis (w := wy) (hF 2 (by decide))]; rw [bis (w := wy) (hF 3 (by decide))]; rw [bis (w := wy) (hF 4 (by decide))]; generalize u 5 = vx5 at *; rw [bis (w := wy) (hF 6 (by decide))]; rw [bis (w := wy) (hF 7 (by decide))]; rw [bis (w := wy) (hF 8 (by decide))]; generalize u 9 = vx9 at *; rw [bis (w := wy) (hF 10 (by decide))]; rw [bis (w := wy) (hF 11 (by decide))]; rw [bis (w := wy) (hF 12 (by decide))]; rw [bis (w := wy) (hF 13 (by decide))]; rw [bis (w := wy) (hF 14 (by decide))]; generalize u 15 = vx15 at *; rw [bis (w := wy) (hF 16 (by decide))]; rw [bis (w := wy) (hF 17 (by decide))]; generalize u 18 = vx18 at *; rw [bis (w := wy) (hF 19 (by decide))]; rw [bis (w := wy) (hF 20 (by decide))]; rw [bis (w := wy) (hF 21 (by decide))]; generalize u 22 = vx22 at *; rw [bis (w := wy) (hF 23 (by decide))]; rw [bis (w := wy) (hF 24 (by decide))]; rw [bis (w := wy) (hF 25 (by decide))]; rw [bis (w := wy) (hF 26 (by decide))]; rw [bis (w := wy) (hF 27 (by decide))]; generalize u 28 = vx28 at *; rw [bis (w := wy) (hF 29 (by decide))]; rw [bis (w := wy) (hF 30 (by decide))]; clear hF
          have hw_wy := hw_w2.trans (hb_wy.mono hw_w2.size)
          clear hw_w2
          replace HS := Lib.hid (HS.out.below hb_wy)
          replace HT := Lib.hid (HT.out.below hb_wy)
          replace HCR := Lib.hid (C2u.bel HCR.out hb_wy)
          replace HP := Lib.hid (Box4.bel HP.out hb_wy)
          replace HX := Lib.hid (HX.out.below hb_wy)
          replace HCX := Lib.hid (C2u.bel HCX.out hb_wy)
          replace HL := Lib.hid (HL.out.below hb_wy)
          go_wp2
          go_ret
          exact ⟨rfl, hw_wy⟩
end Go.Proofs.YtfcbbahlhjdefaaDoor
