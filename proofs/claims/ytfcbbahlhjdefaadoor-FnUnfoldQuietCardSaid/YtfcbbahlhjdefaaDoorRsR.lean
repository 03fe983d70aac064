/- The reference's RulesetValid. -/
import Derived.Test.YtfcbbahlhjdefaaDoorRsQ
namespace Go.Proofs.YtfcbbahlhjdefaaDoor
open Go.RowKit
theorem specOk_no1 {cs : List (List Ru)} {k : Nat} {l : List Ru} (hx : cs[k]? = some l) (h : rusvalid l = false) : specOk cs = false := by
  unfold specOk
  rw [List.all_eq_false.2 ⟨_, List.mem_of_getElem? hx, by rw [h]; simp⟩]; simp
theorem specOk_no2 {cs : List (List Ru)} {k j : Nat} {l : List Ru} {r : Ru} (hx : cs[k]? = some l) (hr : l[j]? = some r) (h : (cs.length : Int) ≤ r.ch) : specOk cs = false := by
  unfold specOk
  rw [show cs.all (fun l => l.all (fun r => decide (r.ch < (cs.length : Int)))) = false from List.all_eq_false.2 ⟨_, List.mem_of_getElem? hx, by
    rw [List.all_eq_false.2 ⟨_, List.mem_of_getElem? hr, by simpa using h⟩]; simp⟩]; simp
set_option maxHeartbeats 4000000 in
set_option maxRecDepth 100000 in
theorem specRstV_any {lo : Nat} (cs : List (List Ru)) (acc : Bool) (v : Value) (w : World) (hs : Rss lo w v cs) :
    Calls Tryd.prog 8 #[.agg #[v, .bool acc]] w fun e w' => e = .returned (.bool (rsvalid cs)) ∧ Below w.heap.size w w' := by
  rw [← specOk_eq]
  obtain ⟨va, vc, rfl, hlc, hcm⟩ := hs.form
  unfold maxLen at hcm
  obtain ⟨n, hnn⟩ : ∃ n, cs.length = n := ⟨_, rfl⟩
  have HN := Lib.hid hnn
  rw [hnn] at hs hlc ⊢
  obtain ⟨W, hW⟩ : ∃ W, w.alloc (.cells #[.slice va n vc, .bool acc] 25) = W := ⟨_, rfl⟩
  have hal : Below w.heap.size w W := by rw [← hW]; exact (Below.refl _ _).alloc (Nat.le_refl _) _
  have hl : w.heap.size < W.heap.size := by rw [← hW]; simp
  have q0 : W.cell? ⟨w.heap.size, 0, none⟩ = some (.slice va n vc) := by rw [← hW]; simp
  have q1 : W.cell? ⟨w.heap.size, 1, none⟩ = some (.bool acc) := by rw [← hW]; simp
  have HQ := Lib.hid (And.intro q0 q1)
  have HS := Lib.hid (hs.below hal)
  clear hs hnn q1
  go_enter Tryd.func8, Tryd.ntmps8
  go_wp2_with fail
  clear q0
  go_loopw [3, 4] (fun i _ wr => ∃ k : Nat, k ≤ n ∧ i = .int .i64 k ∧ Hid ((cs.take k).all rusvalid = true ∧ (cs.take k).all (fun l => l.all (fun r => decide (r.ch < (n : Int)))) = true) ∧ Below W.heap.size W wr) (fun i _ _ => n - (intOf i).toNat)
  case atStart => exact ⟨0, by omega, rfl, Lib.hid (by simp), Below.refl _ _⟩
  case round =>
    obtain ⟨k, hk, rfl, HG, hbr⟩ := hrel
    have hzr := hbr.size
    have hlr : w.heap.size < wr.heap.size := Nat.lt_of_lt_of_le hl hzr
    have c9 := (hbr.cell (p := ⟨w.heap.size, 0, none⟩) hl).trans HQ.out.1
    by_cases hlt : k < n
    · have i1 : (k : Int) < (n : Int) := by omega
      have i2 : (0 : Int) ≤ (k : Int) := by omega
      obtain ⟨l, hx⟩ : ∃ l, cs[k]? = some l := ⟨_, List.getElem?_eq_getElem (by rw [HN.out]; exact hlt)⟩
      obtain ⟨b, o, sv, rfl, hbl, c0, hsv⟩ := (HS.out.below hbr).at hx
      have HX := Lib.hid hx
      have HSV := Lib.hid hsv
      obtain ⟨r, hr⟩ : ∃ r, rusvalid l = r := ⟨_, rfl⟩
      have HR := Lib.hid hr
      clear hx hsv hr
      go_wp2_with fail
      refine (specRsG_b HSV.out HR.out).mono ?_
      rintro e w2 ⟨rfl, hb2⟩
      have hb2' : Below W.heap.size W w2 := hbr.trans (hb2.mono hzr)
      have c0 := (hb2.cell (p := ⟨b, o + k, none⟩) hbl).trans c0
      have HSV2 := Lib.hid (HSV.out.below hb2)
      have hbl := Nat.lt_of_lt_of_le hbl hb2.size
      clear hb2
      cases r
      · have HF := Lib.hid (specOk_no1 HX.out HR.out)
        go_wp2
        go_ret
        exact ⟨ret_bool HF.out.symm, hal.trans (hb2'.mono hal.size)⟩
      · obtain ⟨sa, sc, rfl, hsl, hsm⟩ := HSV2.out.form
        unfold maxLen at hsm
        obtain ⟨m, hm⟩ : ∃ m, l.length = m := ⟨_, rfl⟩
        have HM := Lib.hid hm
        rw [hm] at c0 HSV2 hsl
        clear hm
        go_wp2_with fail
        go_loopw [4] (fun i wr => ∃ j : Nat, j ≤ m ∧ i = .int .i64 j ∧ Hid ((l.take j).all (fun r => decide (r.ch < (n : Int))) = true) ∧ Below w2.heap.size w2 wr) (fun i _ => m - (intOf i).toNat)
        case atStart => exact ⟨0, by omega, rfl, Lib.hid (by simp), Below.refl _ _⟩
        case round =>
          obtain ⟨j, hj, rfl, HGJ, hbs⟩ := hrel
          have hzs := hbs.size
          have hbt : Below W.heap.size W wr := hb2'.trans (hbs.mono hb2'.size)
          have hlw : w.heap.size < wr.heap.size := Nat.lt_of_lt_of_le hl hbt.size
          have c9 := (hbt.cell (p := ⟨w.heap.size, 0, none⟩) hl).trans HQ.out.1
          have c0 := (hbs.cell (p := ⟨b, o + k, none⟩) hbl).trans c0
          by_cases hlj : j < m
          · have j1 : (j : Int) < (m : Int) := by omega
            have j2 : (0 : Int) ≤ (j : Int) := by omega
            obtain ⟨⟨ts, ra, rc⟩, hx⟩ : ∃ x, l[j]? = some x := ⟨_, List.getElem?_eq_getElem (by rw [HM.out]; exact hlj)⟩
            obtain ⟨bb, oo, tv, rfl, hbl2, g0, g1, g2, hsv⟩ := (HSV2.out.below hbs).at hx
            simp only at g2
            have HXX := Lib.hid hx
            clear hx hsv g0 g1
            have hblw : b < wr.heap.size := Nat.lt_of_lt_of_le hbl hzs
            obtain ⟨W0, hW0⟩ : ∃ W0, W0 = wr := ⟨_, rfl⟩
            subst hW0
            by_cases hge : (n : Int) ≤ rc
            · have HF := Lib.hid (specOk_no2 HX.out HXX.out (by rw [HN.out]; exact hge))
              go_wp2_with fail
              (refine wp_region_bel (W := W0) [BIs (.pointer (some ⟨w.heap.size, 0, none⟩)), BIs (.slice (some ⟨b, o, none⟩) n vc), BIs (.int .i64 (k : Int)), BIs (.pointer (some ⟨b, o + k, none⟩)), BIs (.slice (some ⟨bb, oo, none⟩) m sc), BIs (.int .i64 (j : Int)), BIs (.pointer (some ⟨bb, oo + j * 3, none⟩)), BIs (.pointer (some ⟨bb, oo + j * 3 + 2, none⟩)), BIs (.int .i64 rc), BIs (.pointer (some ⟨w.heap.size, 0, none⟩)), BIs (.slice (some ⟨b, o, none⟩) n vc), BIs (.int .i64 (n : Int)), (BIs (.bool true))] (by kernel_rfl) (fun u => by simp only [frU, Act.put, List.setIfInBounds_toArray, List.set_cons_succ, List.set_cons_zero, Nat.zero_add, Nat.reduceAdd]; exact rfl) (by kernel_rfl) ⟨bst_is _, bst_is _, bst_is _, bst_is _, bst_is _, bst_is _, bst_is _, bst_is _, bst_is _, bst_is _, bst_is _, bst_is _, (bst_is _), trivial⟩ ?_ ?_; exact ⟨stB rfl (fun u w3 hC hd Q K hK => by (go_step; exact hK _ _ rfl (Below.refl _ _) rfl)), stB rfl (fun u w3 hC hd Q K hK => by (have hu := bis (w := w3) (hd 0 rfl); rw [hu] at hK ⊢; clear hu; have z0 := (hC.cell (p := ⟨w.heap.size, 0, none⟩) hlw).trans c9; go_step; exact hK _ _ rfl (Below.refl _ _) rfl)), stB rfl (fun u w3 hC hd Q K hK => by (go_step; exact hK _ _ rfl (Below.refl _ _) rfl)), stB rfl (fun u w3 hC hd Q K hK => by (have hu := bis (w := w3) (hd 1 rfl); rw [hu] at hK ⊢; clear hu; have hu := bis (w := w3) (hd 2 rfl); rw [hu] at hK ⊢; clear hu; go_step; exact hK _ _ rfl (Below.refl _ _) rfl)), stB rfl (fun u w3 hC hd Q K hK => by (have hu := bis (w := w3) (hd 3 rfl); rw [hu] at hK ⊢; clear hu; have z0 := (hC.cell (p := ⟨b, o + k, none⟩) hblw).trans c0; go_step; exact hK _ _ rfl (Below.refl _ _) rfl)), stB rfl (fun u w3 hC hd Q K hK => by (go_step; exact hK _ _ rfl (Below.refl _ _) rfl)), stB rfl (fun u w3 hC hd Q K hK => by (have hu := bis (w := w3) (hd 4 rfl); rw [hu] at hK ⊢; clear hu; have hu := bis (w := w3) (hd 5 rfl); rw [hu] at hK ⊢; clear hu; go_step; exact hK _ _ rfl (Below.refl _ _) rfl)), stB rfl (fun u w3 hC hd Q K hK => by (have hu := bis (w := w3) (hd 6 rfl); rw [hu] at hK ⊢; clear hu; go_step; exact hK _ _ rfl (Below.refl _ _) rfl)), stB rfl (fun u w3 hC hd Q K hK => by (have hu := bis (w := w3) (hd 7 rfl); rw [hu] at hK ⊢; clear hu; have z0 := (hC.cell (p := ⟨bb, oo + j * 3 + 2, none⟩) hbl2).trans g2; go_step; exact hK _ _ rfl (Below.refl _ _) rfl)), stB rfl (fun u w3 hC hd Q K hK => by (go_step; exact hK _ _ rfl (Below.refl _ _) rfl)), stB rfl (fun u w3 hC hd Q K hK => by (have hu := bis (w := w3) (hd 9 rfl); rw [hu] at hK ⊢; clear hu; have z0 := (hC.cell (p := ⟨w.heap.size, 0, none⟩) hlw).trans c9; go_step; exact hK _ _ rfl (Below.refl _ _) rfl)), stB rfl (fun u w3 hC hd Q K hK => by (have hu := bis (w := w3) (hd 10 rfl); rw [hu] at hK ⊢; clear hu; go_step; exact hK _ _ rfl (Below.refl _ _) rfl)), stB rfl (fun u w3 hC hd Q K hK => by (have hu := bis (w := w3) (hd 8 rfl); rw [hu] at hK ⊢; clear hu; have hu := bis (w := w3) (hd 11 rfl); rw [hu] at hK ⊢; clear hu; go_step; exact hK _ _ rfl (Below.refl _ _) (by first | exact congrArg Value.bool (decide_eq_true (by omega)) | rfl))), trivial⟩); intro u w9 hb_w9 hF; rw [bis (w := w9) (hF 0 (by decide))]; rw [bis (w := w9) (hF 1 (by decide))]; rw [bis (w := w9) (hF 2 (by decide))]; rw [bis (w := w9) (hF 3 (by decide))]; rw [bis (w := w9) (hF 4 (by decide))]; rw [bis (w := w9) (hF 5 (by decide))]; rw [bis (w := w9) (hF 6 (by decide))]; rw [bis (w := w9) (hF 7 (by decide))]; rw [bis (w := w9) (hF 8 (by decide))]; rw [bis (w := w9) (hF 9 (by decide))]; rw [bis (w := w9) (hF 10 (by decide))]; rw [bis (w := w9) (hF 11 (by decide))]; have hx12 := hF 12 (by decide); generalize u 12 = x12 at *; clear hF
              rw [bis (w := w9) hx12]
              go_wp2
              go_ret
              exact ⟨ret_bool HF.out.symm, hal.trans ((hbt.trans (hb_w9.mono hbt.size)).mono hal.size)⟩
            · have HG2 := Lib.hid (show (l.take (j + 1)).all (fun r => decide (r.ch < (n : Int))) = true by
                rw [List.take_add_one, HXX.out, Option.toList_some, List.all_append, HGJ.out]
                simp
                omega)
              go_wp2_with fail
              (refine wp_region_bel (W := W0) [BIs (.pointer (some ⟨w.heap.size, 0, none⟩)), BIs (.slice (some ⟨b, o, none⟩) n vc), BIs (.int .i64 (k : Int)), BIs (.pointer (some ⟨b, o + k, none⟩)), BIs (.slice (some ⟨bb, oo, none⟩) m sc), BIs (.int .i64 (j : Int)), BIs (.pointer (some ⟨bb, oo + j * 3, none⟩)), BIs (.pointer (some ⟨bb, oo + j * 3 + 2, none⟩)), BIs (.int .i64 rc), BIs (.pointer (some ⟨w.heap.size, 0, none⟩)), BIs (.slice (some ⟨b, o, none⟩) n vc), BIs (.int .i64 (n : Int)), (BIs (.bool false))] (by kernel_rfl) (fun u => by simp only [frU, Act.put, List.setIfInBounds_toArray, List.set_cons_succ, List.set_cons_zero, Nat.zero_add, Nat.reduceAdd]; exact rfl) (by kernel_rfl) ⟨bst_is _, bst_is _, bst_is _, bst_is _, bst_is _, bst_is _, bst_is _, bst_is _, bst_is _, bst_is _, bst_is _, bst_is _, (bst_is _), trivial⟩ ?_ ?_; exact ⟨stB rfl (fun u w3 hC hd Q K hK => by (go_step; exact hK _ _ rfl (Below.refl _ _) rfl)), stB rfl (fun u w3 hC hd Q K hK => by (have hu := bis (w := w3) (hd 0 rfl); rw [hu] at hK ⊢; clear hu; have z0 := (hC.cell (p := ⟨w.heap.size, 0, none⟩) hlw).trans c9; go_step; exact hK _ _ rfl (Below.refl _ _) rfl)), stB rfl (fun u w3 hC hd Q K hK => by (go_step; exact hK _ _ rfl (Below.refl _ _) rfl)), stB rfl (fun u w3 hC hd Q K hK => by (have hu := bis (w := w3) (hd 1 rfl); rw [hu] at hK ⊢; clear hu; have hu := bis (w := w3) (hd 2 rfl); rw [hu] at hK ⊢; clear hu; go_step; exact hK _ _ rfl (Below.refl _ _) rfl)), stB rfl (fun u w3 hC hd Q K hK => by (have hu := bis (w := w3) (hd 3 rfl); rw [hu] at hK ⊢; clear hu; have z0 := (hC.cell (p := ⟨b, o + k, none⟩) hblw).trans c0; go_step; exact hK _ _ rfl (Below.refl _ _) rfl)), stB rfl (fun u w3 hC hd Q K hK => by (go_step; exact hK _ _ rfl (Below.refl _ _) rfl)), stB rfl (fun u w3 hC hd Q K hK => by (have hu := bis (w := w3) (hd 4 rfl); rw [hu] at hK ⊢; clear hu; have hu := bis (w := w3) (hd 5 rfl); rw [hu] at hK ⊢; clear hu; go_step; exact hK _ _ rfl (Below.refl _ _) rfl)), stB rfl (fun u w3 hC hd Q K hK => by (have hu := bis (w := w3) (hd 6 rfl); rw [hu] at hK ⊢; clear hu; go_step; exact hK _ _ rfl (Below.refl _ _) rfl)), stB rfl (fun u w3 hC hd Q K hK => by (have hu := bis (w := w3) (hd 7 rfl); rw [hu] at hK ⊢; clear hu; have z0 := (hC.cell (p := ⟨bb, oo + j * 3 + 2, none⟩) hbl2).trans g2; go_step; exact hK _ _ rfl (Below.refl _ _) rfl)), stB rfl (fun u w3 hC hd Q K hK => by (go_step; exact hK _ _ rfl (Below.refl _ _) rfl)), stB rfl (fun u w3 hC hd Q K hK => by (have hu := bis (w := w3) (hd 9 rfl); rw [hu] at hK ⊢; clear hu; have z0 := (hC.cell (p := ⟨w.heap.size, 0, none⟩) hlw).trans c9; go_step; exact hK _ _ rfl (Below.refl _ _) rfl)), stB rfl (fun u w3 hC hd Q K hK => by (have hu := bis (w := w3) (hd 10 rfl); rw [hu] at hK ⊢; clear hu; go_step; exact hK _ _ rfl (Below.refl _ _) rfl)), stB rfl (fun u w3 hC hd Q K hK => by (have hu := bis (w := w3) (hd 8 rfl); rw [hu] at hK ⊢; clear hu; have hu := bis (w := w3) (hd 11 rfl); rw [hu] at hK ⊢; clear hu; go_step; exact hK _ _ rfl (Below.refl _ _) (by first | exact congrArg Value.bool (decide_eq_false (by omega)) | rfl))), trivial⟩); intro u w9 hb_w9 hF; rw [bis (w := w9) (hF 0 (by decide))]; rw [bis (w := w9) (hF 1 (by decide))]; rw [bis (w := w9) (hF 2 (by decide))]; rw [bis (w := w9) (hF 3 (by decide))]; rw [bis (w := w9) (hF 4 (by decide))]; rw [bis (w := w9) (hF 5 (by decide))]; rw [bis (w := w9) (hF 6 (by decide))]; rw [bis (w := w9) (hF 7 (by decide))]; rw [bis (w := w9) (hF 8 (by decide))]; rw [bis (w := w9) (hF 9 (by decide))]; rw [bis (w := w9) (hF 10 (by decide))]; rw [bis (w := w9) (hF 11 (by decide))]; have hx12 := hF 12 (by decide); generalize u 12 = x12 at *; clear hF
              rw [bis (w := w9) hx12]
              have hb9 : Below w2.heap.size w2 w9 := hbs.trans (hb_w9.mono hzs)
              go_wp2
              go_roundw
              case rel => exact ⟨j + 1, by omega, by go_num, HG2, hb9⟩
              case measure => simp [intOf]; omega
          · have hjm : j = m := by omega
            subst hjm
            have HG2 := Lib.hid (show (cs.take (k + 1)).all rusvalid = true ∧ (cs.take (k + 1)).all (fun l => l.all (fun r => decide (r.ch < (n : Int)))) = true by
              have h1 := HGJ.out
              rw [List.take_of_length_le (by rw [HM.out]; omega)] at h1
              rw [List.take_add_one, HX.out, Option.toList_some, List.all_append, List.all_append, HG.out.1, HG.out.2, List.all_cons, List.all_cons, HR.out, h1]
              simp)
            go_wp2
            go_roundw
            case rel => exact ⟨k + 1, by omega, by go_num, HG2, hbt⟩
            case measure => simp [intOf]; omega
    · have hkn : k = n := by omega
      subst hkn
      have HA := Lib.hid (show cs.all rusvalid = true ∧ cs.all (fun l => l.all (fun r => decide (r.ch < (k : Int)))) = true by
        have := HG.out
        rwa [List.take_of_length_le (by rw [HN.out]; omega)] at this)
      obtain ⟨b, hb⟩ : ∃ b, inB k 1 5 = b := ⟨_, rfl⟩
      have HB := Lib.hid hb
      have HOK := Lib.hid (show specOk cs = (b && decide (kcount (kfin cs) = k)) by
        unfold specOk
        rw [HN.out, HA.out.1, HA.out.2, hb]
        simp)
      have e1 := (hbr.cell (p := ⟨w.heap.size, 1, none⟩) hl).trans HQ.out.2
      have HSR := Lib.hid (HS.out.below hbr)
      obtain ⟨W0, hW0⟩ : ∃ W0, W0 = wr := ⟨_, rfl⟩
      subst hW0
      clear hb
      cases b
      · go_wp2_with fail
        (refine wp_region_belH (W := W0) [BIs (.pointer (some ⟨w.heap.size, 0, none⟩)), BIs (.slice va k vc), BIs (.int .i64 (k : Int)), (BIs (.bool false)), BIs (.bool false), BIs undef, BIs undef, BIs undef, BIs undef, BIs undef, BIs undef, BIs undef, BIs (.bool false), BIs (.bool false)] (by kernel_rfl) (fun u => by simp only [frU, Act.put, List.setIfInBounds_toArray, List.set_cons_succ, List.set_cons_zero, Nat.zero_add, Nat.reduceAdd]; exact rfl) (by kernel_rfl) ⟨bst_is _, bst_is _, bst_is _, (bst_is _), bst_is _, bst_is _, bst_is _, bst_is _, bst_is _, bst_is _, bst_is _, bst_is _, bst_is _, bst_is _, trivial⟩ ?_ ?_; exact ⟨stH (fun u w3 hC hd => .inl ⟨rfl, fun Q K hK => by (go_step; exact hK _ _ rfl (Below.refl _ _) rfl)⟩), stH (fun u w3 hC hd => .inl ⟨rfl, fun Q K hK => by (have hu := bis (w := w3) (hd 0 rfl); rw [hu] at hK ⊢; clear hu; have z0 := (hC.cell (p := ⟨w.heap.size, 0, none⟩) hlr).trans c9; go_step; exact hK _ _ rfl (Below.refl _ _) rfl)⟩), stH (fun u w3 hC hd => .inl ⟨rfl, fun Q K hK => by (have hu := bis (w := w3) (hd 1 rfl); rw [hu] at hK ⊢; clear hu; go_step; exact hK _ _ rfl (Below.refl _ _) rfl)⟩), stH (fun u w3 hC hd => .inl ⟨rfl, fun Q K hK => by (have hu := bis (w := w3) (hd 2 rfl); rw [hu] at hK ⊢; clear hu; go_step; refine (l1In_b HB.out _).mono ?_; rintro e w4 ⟨rfl, rfl⟩; exact hK _ _ rfl (Below.refl _ _) rfl)⟩), stH (fun u w3 hC hd => .inl ⟨rfl, fun Q K hK => by (have hu := bis (w := w3) (hd 3 rfl); rw [hu] at hK ⊢; clear hu; go_step; exact hK _ _ rfl (Below.refl _ _) rfl)⟩), stH (fun u w3 hC hd => .inr ⟨by (have hu := bis (w := w3) (hd 4 rfl); rw [hu]; rfl), rfl⟩), stH (fun u w3 hC hd => .inr ⟨by (have hu := bis (w := w3) (hd 4 rfl); rw [hu]; rfl), rfl⟩), stH (fun u w3 hC hd => .inr ⟨by (have hu := bis (w := w3) (hd 4 rfl); rw [hu]; rfl), rfl⟩), stH (fun u w3 hC hd => .inr ⟨by (have hu := bis (w := w3) (hd 4 rfl); rw [hu]; rfl), rfl⟩), stH (fun u w3 hC hd => .inr ⟨by (have hu := bis (w := w3) (hd 4 rfl); rw [hu]; rfl), rfl⟩), stH (fun u w3 hC hd => .inr ⟨by (have hu := bis (w := w3) (hd 4 rfl); rw [hu]; rfl), rfl⟩), stH (fun u w3 hC hd => .inr ⟨by (have hu := bis (w := w3) (hd 4 rfl); rw [hu]; rfl), rfl⟩), stH (fun u w3 hC hd => .inl ⟨rfl, fun Q K hK => by (have hu := bis (w := w3) (hd 4 rfl); rw [hu] at hK ⊢; clear hu; go_step; exact hK _ _ rfl (Below.refl _ _) rfl)⟩), stH (fun u w3 hC hd => .inl ⟨rfl, fun Q K hK => by (have hu := bis (w := w3) (hd 12 rfl); rw [hu] at hK ⊢; clear hu; go_step; exact hK _ _ rfl (Below.refl _ _) rfl)⟩), trivial⟩); intro u w9 hb_w9 hF; rw [bis (w := w9) (hF 0 (by decide))]; rw [bis (w := w9) (hF 1 (by decide))]; rw [bis (w := w9) (hF 2 (by decide))]; generalize u 3 = vx3 at *; rw [bis (w := w9) (hF 4 (by decide))]; rw [bis (w := w9) (hF 5 (by decide))]; rw [bis (w := w9) (hF 6 (by decide))]; rw [bis (w := w9) (hF 7 (by decide))]; rw [bis (w := w9) (hF 8 (by decide))]; rw [bis (w := w9) (hF 9 (by decide))]; rw [bis (w := w9) (hF 10 (by decide))]; rw [bis (w := w9) (hF 11 (by decide))]; rw [bis (w := w9) (hF 12 (by decide))]; rw [bis (w := w9) (hF 13 (by decide))]; clear hF
        go_wp2
        go_ret
        exact ⟨ret_bool (by rw [HOK.out]; rfl), hal.trans ((hbr.trans (hb_w9.mono hzr)).mono hal.size)⟩
      · have hk15 := HB.out
        rw [inB_iff] at hk15
        have HCI := Lib.hid (show CallsIn cs from fun l hl r hr ha => by
          have hv := List.all_eq_true.1 HA.out.1 l hl
          unfold rusvalid at hv
          rw [Bool.and_eq_true, List.all_eq_true] at hv
          have h := hv.1 r hr
          have h3 := of_decide_eq_true (List.all_eq_true.1 (List.all_eq_true.1 HA.out.2 l hl) r hr)
          obtain ⟨ts, a, c⟩ := r
          obtain ⟨h0, h5⟩ := ruok_call h ha
          exact ⟨h0, h5, by rw [HN.out]; exact h3⟩)
        obtain ⟨K, hK⟩ : ∃ K, kcount (kfin cs) = K := ⟨_, rfl⟩
        have HK := Lib.hid hK
        have hn5 : cs.length ≤ 5 := by rw [HN.out]; omega
        have HO := fun (w3 : World) (hC : Below W0.heap.size W0 w3) => l8Order_any cs HCI.out hn5 acc _ w3 (HSR.out.below hC)
        rw [hK] at HO
        have hkk : ((K : Int) == (k : Int)) = decide (K = k) := by
          by_cases e : K = k
          · subst e; simp
          · rw [decide_eq_false e]; simp; omega
        obtain ⟨r, hr⟩ : ∃ r, decide (K = k) = r := ⟨_, rfl⟩
        rw [hr] at hkk
        have HF := Lib.hid (show specOk cs = r by rw [HOK.out, HK.out, hr]; rfl)
        clear hK hr
        go_wp2_with fail
        (refine wp_region_belG (W := W0) [BIs (.pointer (some ⟨w.heap.size, 0, none⟩)), BIs (.slice va k vc), BIs (.int .i64 (k : Int)), (BIs (.bool true)), BIs (.bool true), BIs (.agg #[.slice va k vc, .bool acc]), ((fun _ v => ∃ a c, v = .slice a K c)), BIs (.int .i64 (K : Int)), BIs (.pointer (some ⟨w.heap.size, 0, none⟩)), BIs (.slice va k vc), BIs (.int .i64 (k : Int)), (BIs (.bool r)), BIs (.bool r), BIs (.bool r)] (by kernel_rfl) (fun u => by simp only [frU, Act.put, List.setIfInBounds_toArray, List.set_cons_succ, List.set_cons_zero, Nat.zero_add, Nat.reduceAdd]; exact rfl) (by kernel_rfl) ⟨bst_is _, bst_is _, bst_is _, (bst_is _), bst_is _, bst_is _, (fun _ _ _ _ h => h), bst_is _, bst_is _, bst_is _, bst_is _, (bst_is _), bst_is _, bst_is _, trivial⟩ ?_ ?_; exact ⟨stG (fun u w3 hC hd => ⟨rfl, fun Q K hK => by (go_step; exact hK _ _ rfl (Below.refl _ _) rfl)⟩), stG (fun u w3 hC hd => ⟨rfl, fun Q K hK => by (have hu := bis (w := w3) (hd 0 rfl); rw [hu] at hK ⊢; clear hu; have z0 := (hC.cell (p := ⟨w.heap.size, 0, none⟩) hlr).trans c9; go_step; exact hK _ _ rfl (Below.refl _ _) rfl)⟩), stG (fun u w3 hC hd => ⟨rfl, fun Q K hK => by (have hu := bis (w := w3) (hd 1 rfl); rw [hu] at hK ⊢; clear hu; go_step; exact hK _ _ rfl (Below.refl _ _) rfl)⟩), stG (fun u w3 hC hd => ⟨rfl, fun Q K hK => by (have hu := bis (w := w3) (hd 2 rfl); rw [hu] at hK ⊢; clear hu; go_step; refine (l1In_b HB.out _).mono ?_; rintro e w4 ⟨rfl, rfl⟩; exact hK _ _ rfl (Below.refl _ _) rfl)⟩), stG (fun u w3 hC hd => ⟨rfl, fun Q K hK => by (have hu := bis (w := w3) (hd 3 rfl); rw [hu] at hK ⊢; clear hu; go_step; exact hK _ _ rfl (Below.refl _ _) rfl)⟩), stG (fun u w3 hC hd => ⟨by (have hu := bis (w := w3) (hd 4 rfl); rw [hu]; rfl), fun Q K hK => by (have hu := bis (w := w3) (hd 4 rfl); rw [hu] at hK ⊢; clear hu; have z0 := (hC.cell (p := ⟨w.heap.size, 0, none⟩) hlr).trans c9; have z1 := (hC.cell (p := ⟨w.heap.size, 1, none⟩) hlr).trans e1; go_step; exact hK _ _ rfl (Below.refl _ _) rfl)⟩), stG (fun u w3 hC hd => ⟨by (have hu := bis (w := w3) (hd 4 rfl); rw [hu]; rfl), fun Q K hK => by (have hu := bis (w := w3) (hd 5 rfl); rw [hu] at hK ⊢; clear hu; go_step; refine (HO _ hC).mono ?_; rintro e w4 ⟨a, c, rfl, hb4⟩; exact hK _ _ rfl hb4 ⟨a, c, rfl⟩)⟩), stG (fun u w3 hC hd => ⟨by (have hu := bis (w := w3) (hd 4 rfl); rw [hu]; rfl), fun Q K hK => by (obtain ⟨a8, c8, hu⟩ := hd 6 rfl; rw [hu] at hK ⊢; clear hu; go_step; exact hK _ _ rfl (Below.refl _ _) rfl)⟩), stG (fun u w3 hC hd => ⟨by (have hu := bis (w := w3) (hd 4 rfl); rw [hu]; rfl), fun Q K hK => by (go_step; exact hK _ _ rfl (Below.refl _ _) rfl)⟩), stG (fun u w3 hC hd => ⟨by (have hu := bis (w := w3) (hd 4 rfl); rw [hu]; rfl), fun Q K hK => by (have hu := bis (w := w3) (hd 8 rfl); rw [hu] at hK ⊢; clear hu; have z0 := (hC.cell (p := ⟨w.heap.size, 0, none⟩) hlr).trans c9; go_step; exact hK _ _ rfl (Below.refl _ _) rfl)⟩), stG (fun u w3 hC hd => ⟨by (have hu := bis (w := w3) (hd 4 rfl); rw [hu]; rfl), fun Q K hK => by (have hu := bis (w := w3) (hd 9 rfl); rw [hu] at hK ⊢; clear hu; go_step; exact hK _ _ rfl (Below.refl _ _) rfl)⟩), stG (fun u w3 hC hd => ⟨by (have hu := bis (w := w3) (hd 4 rfl); rw [hu]; rfl), fun Q K hK => by (have hu := bis (w := w3) (hd 7 rfl); rw [hu] at hK ⊢; clear hu; have hu := bis (w := w3) (hd 10 rfl); rw [hu] at hK ⊢; clear hu; go_step; exact hK _ _ rfl (Below.refl _ _) (by first | exact congrArg Value.bool hkk | rfl))⟩), stG (fun u w3 hC hd => ⟨rfl, fun Q K hK => by (have hu := bis (w := w3) (hd 4 rfl); rw [hu] at hK ⊢; clear hu; have hu := bis (w := w3) (hd 11 rfl); rw [hu] at hK ⊢; clear hu; go_step; exact hK _ _ rfl (Below.refl _ _) rfl)⟩), stG (fun u w3 hC hd => ⟨rfl, fun Q K hK => by (have hu := bis (w := w3) (hd 12 rfl); rw [hu] at hK ⊢; clear hu; go_step; exact hK _ _ rfl (Below.refl _ _) rfl)⟩), trivial⟩); intro u w9 hb_w9 hF; rw [bis (w := w9) (hF 0 (by decide))]; rw [bis (w := w9) (hF 1 (by decide))]; rw [bis (w := w9) (hF 2 (by decide))]; generalize u 3 = vx3 at *; rw [bis (w := w9) (hF 4 (by decide))]; rw [bis (w := w9) (hF 5 (by decide))]; generalize u 6 = vx6 at *; rw [bis (w := w9) (hF 7 (by decide))]; rw [bis (w := w9) (hF 8 (by decide))]; rw [bis (w := w9) (hF 9 (by decide))]; rw [bis (w := w9) (hF 10 (by decide))]; generalize u 11 = vx11 at *; rw [bis (w := w9) (hF 12 (by decide))]; rw [bis (w := w9) (hF 13 (by decide))]; clear hF
        go_wp2
        go_ret
        exact ⟨ret_bool HF.out.symm, hal.trans ((hbr.trans (hb_w9.mono hzr)).mono hal.size)⟩
theorem specRstV_b {lo : Nat} {cs : List (List Ru)} {acc : Bool} {v : Value} {w : World} {r : Bool} (hs : Rss lo w v cs) (h : rsvalid cs = r) :
    Calls Tryd.prog 8 #[.agg #[v, .bool acc]] w fun e w' => e = .returned (.bool r) ∧ Below w.heap.size w w' := by
  subst h
  exact specRstV_any cs acc v w hs
end Go.Proofs.YtfcbbahlhjdefaaDoor
