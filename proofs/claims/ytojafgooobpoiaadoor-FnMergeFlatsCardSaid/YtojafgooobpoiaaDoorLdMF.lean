/- The law FnMergeFlats: the walk. -/
import Derived.Test.YtojafgooobpoiaaDoorDrF
import Derived.Test.YtojafgooobpoiaaDoorMgS
import Derived.Test.YtojafgooobpoiaaDoorDxBT
import Derived.Test.YtojafgooobpoiaaDoorDxAJ
import Derived.Test.YtojafgooobpoiaaDoorRgH
namespace Go.Proofs.YtojafgooobpoiaaDoor
open Go.RowKit
theorem mgf_pair {fs : List Ft} {k : Nat} {f g : Ft} {q : Bool} (hf : (mgf fs)[k]? = some f) (hg : (mgf fs)[k + 1]? = some g) (hq : (mergeV f.box g.box).isSome = q) : (q && (f.acc == g.acc)) = false := by
  have h := mgf_done hf hg
  unfold mrg at h
  subst hq
  by_cases e : f.acc = g.acc
  · rw [if_pos e] at h
    have h2 : mergeB f.box g.box = none := by
      cases hm : mergeB f.box g.box with
      | none => rfl
      | some c => rw [hm] at h; cases h
    have h3 : mergeV f.box g.box = none := by
      unfold mergeV
      rw [h2]
      split <;> rfl
    rw [h3]; rfl
  · have : (f.acc == g.acc) = false := by simpa using e
    rw [this, Bool.and_false]
theorem implMB_r {lo lo' : Nat} {a b M : Bx} {R : Option Bx} {q : Bool} {u v : Value} {w : World} (hs : Rws lo w u a) (hu : Rws lo' w v b) (ht : Tab w) (h : mergeV a b = R) (hq : R.isSome = q) (hm : R.getD [] = M) :
    Calls Tryd.prog 21 #[.agg #[u], .agg #[v]] w fun e w' => ∃ z, e = .returned (.tuple #[.agg #[z], .bool q]) ∧ RwV (fun _ => False) w' z M ∧ Below w.heap.size w w' := by
  subst hq
  subst hm
  refine (implMB_e hs hu ht h).mono ?_
  rintro e w' ⟨z, rfl, h1, h2⟩
  exact ⟨z, rfl, RwV.all h1.rws, h2⟩
set_option maxHeartbeats 4000000 in
set_option maxRecDepth 100000 in
theorem law_FnMergeFlats (bs bs2 : List Int) (v v2 : Value) (w : World) (h : CodeAt w v bs) (h2 : CodeAt w v2 bs2) (ht : Tab w) :
    Calls Tryd.prog 4 #[v, v2] w fun e w' => e = .returned (.bool true) ∧ Below w.heap.size w w' := by
  obtain ⟨a, cap, rfl, l1, l2, -⟩ := code_cells h
  obtain ⟨a2, cap2, rfl, m1, m2, -⟩ := code_cells h2
  unfold maxLen at l2 m2
  by_cases hl : 1048576 < bs.length
  · go_enter Tryd.func4, Tryd.ntmps4
    go_wp2
    go_ret
    exact ⟨rfl, by (repeat' (first | with_reducible exact Below.refl _ _ | with_reducible assumption | with_reducible refine Below.setCell ?_ ?_ _ | with_reducible refine Below.alloc ?_ ?_ _ | with_reducible refine Below.drew ?_ | with_reducible refine belDrewN ?_ _ | with_reducible refine Below.trans ?_ (Below.mono (by assumption) ?_) | omega | (simp; omega) | (simp; done)))⟩
  by_cases hl2 : 1048576 < bs2.length
  · go_enter Tryd.func4, Tryd.ntmps4
    go_wp2
    go_ret
    exact ⟨rfl, by (repeat' (first | with_reducible exact Below.refl _ _ | with_reducible assumption | with_reducible refine Below.setCell ?_ ?_ _ | with_reducible refine Below.alloc ?_ ?_ _ | with_reducible refine Below.drew ?_ | with_reducible refine belDrewN ?_ _ | with_reducible refine Below.trans ?_ (Below.mono (by assumption) ?_) | omega | (simp; omega) | (simp; done)))⟩
  have hsd : bs2.length ≤ 1048576 := by omega
  generalize bs2.length = sd at *
  go_enter Tryd.func4, Tryd.ntmps4
  go_wp2_with fail
  refine (drawMF_any _ _ _ h).mono ?_
  rintro e w1 ⟨v0, fs, rfl, ho, hlen, hok, hb_w1⟩
  have hw_w1 := hb_w1
  have HS := Lib.hid (ho.fts.mono (Nat.zero_le _))
  have HT := Lib.hid (ht.below hb_w1)
  have HOK := Lib.hid hok
  have HFN := Lib.hid (drawn_ftN hlen hok)
  clear hb_w1 ho hok h
  obtain ⟨sa, sc, rfl, hlc_sa, hcm_sa⟩ := HS.out.form
  unfold maxLen at hcm_sa
  obtain ⟨R, hR⟩ : ∃ R, mgf fs = R := ⟨_, rfl⟩
  have HR := Lib.hid hR
  clear hR
  go_wp2_with fail
  refine (implMergeFlats_e HS.out HT.out HR.out).mono ?_
  rintro e w2 ⟨v2, rfl, ho, hb_w2⟩
  have hw_w2 := hw_w1.trans (hb_w2.mono hw_w1.size)
  clear hw_w1
  replace HS := Lib.hid (HS.out.below hb_w2)
  replace HT := Lib.hid (HT.out.below hb_w2)
  have HX := Lib.hid (ho.fts)
  clear hb_w2 ho
  obtain ⟨xa, xc, rfl, hlc_xa, hcm_xa⟩ := HX.out.form
  unfold maxLen at hcm_xa
  go_wp2_with fail
  refine (specMergeFlats_e HS.out HFN.out HR.out).mono ?_
  rintro e w3 ⟨v3, rfl, ho, hb_w3⟩
  have hw_w3 := hw_w2.trans (hb_w3.mono hw_w2.size)
  clear hw_w2
  replace HS := Lib.hid (HS.out.below hb_w3)
  replace HT := Lib.hid (HT.out.below hb_w3)
  replace HX := Lib.hid (HX.out.below hb_w3)
  have HY := Lib.hid (ho)
  clear hb_w3 ho
  obtain ⟨ya, yc, rfl, hlc_ya, hcm_ya⟩ := HY.out.form
  unfold maxLen at hcm_ya
  go_wp2_with fail
  refine (sameFlats_e HX.out HY.out).mono ?_
  rintro e w4 ⟨rfl, hb_w4⟩
  have hw_w4 := hw_w3.trans (hb_w4.mono hw_w3.size)
  clear hw_w3
  replace HS := Lib.hid (HS.out.below hb_w4)
  replace HT := Lib.hid (HT.out.below hb_w4)
  replace HX := Lib.hid (HX.out.below hb_w4)
  replace HY := Lib.hid (HY.out.below hb_w4)
  clear hb_w4 
  clear HY
  cases hv : fvalid fs
  · obtain rfl : R = [] := by rw [← HR.out, mgf, hv]; rfl
    go_wp2_with fail
    refine (specFV_b HS.out hv).mono ?_
    rintro e w5 ⟨rfl, hb_w5⟩
    have hw_w5 := hw_w4.trans (hb_w5.mono hw_w4.size)
    clear hw_w4
    replace HS := Lib.hid (HS.out.below hb_w5)
    replace HT := Lib.hid (HT.out.below hb_w5)
    replace HX := Lib.hid (HX.out.below hb_w5)
    clear hb_w5 
    go_wp2_with fail
    refine (alive_any _).mono ?_
    rintro e w6 ⟨rfl, hb_w6⟩
    have hw_w6 := hw_w5.trans (hb_w6.mono hw_w5.size)
    clear hw_w5
    replace HS := Lib.hid (HS.out.below hb_w6)
    replace HT := Lib.hid (HT.out.below hb_w6)
    replace HX := Lib.hid (HX.out.below hb_w6)
    clear hb_w6 
    go_wp2
    go_ret
    exact ⟨rfl, hw_w6⟩
  · go_wp2_with fail
    refine (specFV_b HS.out hv).mono ?_
    rintro e w7 ⟨rfl, hb_w7⟩
    have hw_w7 := hw_w4.trans (hb_w7.mono hw_w4.size)
    clear hw_w4
    replace HS := Lib.hid (HS.out.below hb_w7)
    replace HT := Lib.hid (HT.out.below hb_w7)
    replace HX := Lib.hid (HX.out.below hb_w7)
    clear hb_w7 
    have hln : R.length ≤ fs.length := by rw [← HR.out]; exact mgf_len fs
    obtain ⟨m, hm⟩ : ∃ m, R.length = m := ⟨_, rfl⟩
    have HM := Lib.hid hm
    rw [hm] at HX hlc_xa hln ⊢
    have hm61 : m ≤ 61 := by omega
    clear hm
    go_wp2_with fail
    go_loopw [7] (fun i wr => ∃ k : Nat, k ≤ m ∧ i = .int .i64 k ∧ Below w7.heap.size w7 wr) (fun i _ => m - (intOf i).toNat)
    case atStart => exact ⟨0, by omega, rfl, Below.refl _ _⟩
    case round =>
      obtain ⟨k, hk, rfl, hbr⟩ := hrel
      have HBB := Lib.hid (Below.refl w7.heap.size w7)
      have hw_wr := hw_w7.trans (hbr.mono hw_w7.size)
      clear hw_w7
      replace HS := Lib.hid (HS.out.below hbr)
      replace HT := Lib.hid (HT.out.below hbr)
      replace HX := Lib.hid (HX.out.below hbr)
      replace HBB := Lib.hid (HBB.out.trans (hbr.mono HBB.out.size))
      clear hbr
      by_cases hlt : k + 1 < m
      · have i1 : (k : Int) + 1 < (m : Int) := by omega
        have i0 : (0 : Int) ≤ (k : Int) := by omega
        have i4 : (0 : Int) ≤ (k : Int) + 1 := by omega
        have i3 : (k : Int) < (m : Int) := by omega
        have i5 : ((k : Int) + 1).toNat = k + 1 := by omega
        have i6 : IntKind.i64.wrap ((k : Int) + 1) = (k : Int) + 1 := IntWalk.i64_in _ (by omega)
        obtain ⟨f, hf⟩ : ∃ f, R[k]? = some f := ⟨_, List.getElem?_eq_getElem (by rw [HM.out]; omega)⟩
        obtain ⟨g, hg⟩ : ∃ g, R[k + 1]? = some g := ⟨_, List.getElem?_eq_getElem (by rw [HM.out]; omega)⟩
        obtain ⟨b, o, sv, rfl, hbl, c0, c1, hsv⟩ := HX.out.at hf
        obtain ⟨b2, o2, tv, he2, hbl2, d0, d1, htv⟩ := HX.out.at hg
        cases he2
        have HSF := Lib.hid hsv
        have HSG := Lib.hid htv
        obtain ⟨O, hO⟩ : ∃ O, mergeV f.box g.box = O := ⟨_, rfl⟩
        have HOO := Lib.hid hO
        have HLN := Lib.hid (show O.getD [] = [] ∨ 2 ≤ (O.getD []).length by
          cases O with
          | none => exact .inl rfl
          | some c => exact .inr (by have := (bvalid_four (mergeV_valid hO)).1; simp only [Option.getD_some]; omega))
        obtain ⟨q, hq⟩ : ∃ q, O.isSome = q := ⟨_, rfl⟩
        have HQ := Lib.hid hq
        have HPR := Lib.hid (mgf_pair (fs := fs) (q := q) (by rw [HR.out]; exact hf) (by rw [HR.out]; exact hg) (by rw [hO, hq]))
        generalize f.acc = fa at *
        generalize g.acc = ga at *
        clear hsv htv hf hg hO hq hbl2 hlt
        obtain ⟨M, hM⟩ : ∃ M, O.getD [] = M := ⟨_, rfl⟩
        have HMM := Lib.hid hM
        rw [hM] at HLN
        clear hM
        go_wp2_with fail
        refine wp_region_turn2 (W := wr) 16 [BIs (.slice (some ⟨b, o, none⟩) m xc), BIs (.int .i64 (k : Int)), BIs (.pointer (some ⟨b, o + k * 2, none⟩)), BIs (.pointer (some ⟨b, o + k * 2, none⟩)), BIs (.agg #[sv]), BIs (.slice (some ⟨b, o, none⟩) m xc), BIs (.int .i64 (k : Int)), BIs (.int .i64 ((k : Int) + 1)), BIs (.pointer (some ⟨b, o + (k + 1) * 2, none⟩)), BIs (.pointer (some ⟨b, o + (k + 1) * 2, none⟩)), BIs (.agg #[tv]), (fun w v => ∃ z, v = .tuple #[.agg #[z], .bool q] ∧ RwV (fun _ => False) w z M), (fun w v => ∃ z, v = .tuple #[.agg #[z], .bool q] ∧ RwV (fun _ => False) w z M), (fun w v => ∃ z, v = .agg #[z] ∧ RwV (fun _ => False) w z M), BIs (.bool q), (BP wr)] (bof [BIs (.slice (some ⟨b, o, none⟩) m xc), BIs (.int .i64 (k : Int)), BIs (.pointer (some ⟨b, o + k * 2, none⟩)), BIs (.pointer (some ⟨b, o + k * 2, none⟩)), BIs (.agg #[sv]), BIs (.slice (some ⟨b, o, none⟩) m xc), BIs (.int .i64 (k : Int)), BIs (.int .i64 ((k : Int) + 1)), BIs (.pointer (some ⟨b, o + (k + 1) * 2, none⟩)), BIs (.pointer (some ⟨b, o + (k + 1) * 2, none⟩)), BIs (.agg #[tv]), (fun _ v => ∃ z, v = .tuple #[z, .bool q] ∧ True), (fun _ v => ∃ z, v = .tuple #[z, .bool q] ∧ True), (fun _ _ => True), BIs (.bool q), (BQV (fun _ => False) M wr), (fun _ _ => True), BIs (.bool q)]) (by kernel_rfl) (by decide) (fun u => by simp only [frU, Act.put, List.setIfInBounds_toArray, List.set_cons_succ, List.set_cons_zero, Nat.zero_add, Nat.reduceAdd]; exact rfl) (by kernel_rfl) ⟨bst_is _, bst_is _, bst_is _, bst_is _, bst_is _, bst_is _, bst_is _, bst_is _, bst_is _, bst_is _, bst_is _, (fun _ _ _ hb ⟨z, h1, h2⟩ => ⟨z, h1, h2.below hb⟩), (fun _ _ _ hb ⟨z, h1, h2⟩ => ⟨z, h1, h2.below hb⟩), (fun _ _ _ hb ⟨z, h1, h2⟩ => ⟨z, h1, h2.below hb⟩), bst_is _, (bst_bp _), trivial⟩ ?_ ?_; (exact ⟨stT rfl (by decide) (by kernel_rfl) (fun u w3 hC hd hI Q K hK => by (go_step; exact hK _ _ rfl (Below.refl _ _) rfl)), stT rfl (by decide) (by kernel_rfl) (fun u w3 hC hd hI Q K hK => by (go_step; exact hK _ _ rfl (Below.refl _ _) rfl)), stT rfl (by decide) (by kernel_rfl) (fun u w3 hC hd hI Q K hK => by (have hu := bis (w := w3) (hd 0 rfl); rw [hu] at hK ⊢; clear hu; have hu := bis (w := w3) (hd 1 rfl); rw [hu] at hK ⊢; clear hu; go_step; exact hK _ _ rfl (Below.refl _ _) rfl)), stT rfl (by decide) (by kernel_rfl) (fun u w3 hC hd hI Q K hK => by (have hu := bis (w := w3) (hd 2 rfl); rw [hu] at hK ⊢; clear hu; go_step; exact hK _ _ rfl (Below.refl _ _) rfl)), stT rfl (by decide) (by kernel_rfl) (fun u w3 hC hd hI Q K hK => by (have hu := bis (w := w3) (hd 3 rfl); rw [hu] at hK ⊢; clear hu; have z0 := (hC.cell (p := ⟨b, o + k * 2, none⟩) hbl).trans c0; go_step; exact hK _ _ rfl (Below.refl _ _) rfl)), stT rfl (by decide) (by kernel_rfl) (fun u w3 hC hd hI Q K hK => by (go_step; exact hK _ _ rfl (Below.refl _ _) rfl)), stT rfl (by decide) (by kernel_rfl) (fun u w3 hC hd hI Q K hK => by (go_step; exact hK _ _ rfl (Below.refl _ _) rfl)), stT rfl (by decide) (by kernel_rfl) (fun u w3 hC hd hI Q K hK => by (have hu := bis (w := w3) (hd 6 rfl); rw [hu] at hK ⊢; clear hu; go_step; exact hK _ _ rfl (Below.refl _ _) rfl)), stT rfl (by decide) (by kernel_rfl) (fun u w3 hC hd hI Q K hK => by (have hu := bis (w := w3) (hd 5 rfl); rw [hu] at hK ⊢; clear hu; have hu := bis (w := w3) (hd 7 rfl); rw [hu] at hK ⊢; clear hu; go_step; exact hK _ _ rfl (Below.refl _ _) rfl)), stT rfl (by decide) (by kernel_rfl) (fun u w3 hC hd hI Q K hK => by (have hu := bis (w := w3) (hd 8 rfl); rw [hu] at hK ⊢; clear hu; go_step; exact hK _ _ rfl (Below.refl _ _) rfl)), stT rfl (by decide) (by kernel_rfl) (fun u w3 hC hd hI Q K hK => by (have hu := bis (w := w3) (hd 9 rfl); rw [hu] at hK ⊢; clear hu; have z0 := (hC.cell (p := ⟨b, o + (k + 1) * 2, none⟩) hbl).trans d0; go_step; exact hK _ _ rfl (Below.refl _ _) rfl)), stT rfl (by decide) (by kernel_rfl) (fun u w3 hC hd hI Q K hK => by (have hu := bis (w := w3) (hd 4 rfl); rw [hu] at hK ⊢; clear hu; have hu := bis (w := w3) (hd 10 rfl); rw [hu] at hK ⊢; clear hu; go_step; refine (implMB_r (HSF.out.below hC) (HSG.out.below hC) (HT.out.below hC) HOO.out HQ.out HMM.out).mono ?_; rintro e w4 ⟨z4, rfl, ho4, hb4⟩; exact hK _ _ rfl hb4 ⟨z4, rfl, ho4⟩)), stT rfl (by decide) (by kernel_rfl) (fun u w3 hC hd hI Q K hK => by (obtain ⟨z, hu, hz⟩ := hd 11 rfl; rw [hu] at hK ⊢; clear hu; go_step; exact hK _ _ rfl (Below.refl _ _) ⟨z, rfl, hz⟩)), stT rfl (by decide) (by kernel_rfl) (fun u w3 hC hd hI Q K hK => by (obtain ⟨z, hu, hz⟩ := hd 12 rfl; rw [hu] at hK ⊢; clear hu; go_step; exact hK _ _ rfl (Below.refl _ _) ⟨z, rfl, hz⟩)), stTf rfl (by decide) (fun u w3 hC hd Q K hK => by (obtain ⟨z, hu, hz⟩ := hd 12 rfl; rw [hu] at hK ⊢; clear hu; go_step; exact hK _ _ rfl (Below.refl _ _) rfl)) (fun u w3 hd Q K hK => by (dsimp only at hK ⊢; obtain ⟨z, hu, hz⟩ := hd 12 rfl; rw [hu] at hK ⊢; clear hu; go_step; exact hK _ rfl rfl)), stT rfl (by decide) (by kernel_rfl) (fun u w3 hC hd hI Q K hK => by (go_step; exact hK _ _ rfl ((Below.refl _ _).alloc (Nat.le_refl _) _) (BP.new _ hC.size))), stTt rfl (by decide) (fun u w3 hC hd Q K hK => by (dsimp only at hK ⊢; obtain ⟨qq, hu, hq1, hq2, hqf, hqo⟩ := hd 15 rfl; rw [hu] at hK ⊢; have hkeep := hu; clear hu; obtain ⟨z, hu, hz⟩ := hd 13 rfl; rw [hu] at hK ⊢; clear hu; have e0 := hqf 0; have e1 := hqo.1; obtain ⟨a0, c0, rfl, -, -⟩ := hz.rws.form; go_step; have hQ := BQV.mk1 hC hq1 hq2 hqf hqo HLN.out hz; refine hK _ _ rfl (fun j hj h => ?_) ?_; (match j, hj, h with | 0, _, h => exact h | 1, _, h => exact h | 2, _, h => exact h | 3, _, h => exact h | 4, _, h => exact h | 5, _, h => exact h | 6, _, h => exact h | 7, _, h => exact h | 8, _, h => exact h | 9, _, h => exact h | 10, _, h => exact h | 11, _, h => exact (let ⟨z, g1, _⟩ := h; ⟨.agg #[z], g1, trivial⟩) | 12, _, h => exact (let ⟨z, g1, _⟩ := h; ⟨.agg #[z], g1, trivial⟩) | 13, _, _ => exact trivial | 14, _, h => exact h | 15, _, h => exact (show BQV (fun _ => False) M wr _ _ by rw [hkeep]; exact hQ) | j + 16, hj, _ => exact absurd hj (by omega)); exact trivial)), stTb rfl (by decide) (by kernel_rfl) (fun u w3 hd Q K hK => by (dsimp only at hK ⊢; have hu := bis (w := w3) (hd 14 rfl); rw [hu] at hK ⊢; clear hu; go_step; exact hK _ rfl rfl)), trivial⟩); intro u w3 hF; rw [bis (w := w3) (hF 0 (by decide))]; rw [bis (w := w3) (hF 1 (by decide))]; rw [bis (w := w3) (hF 2 (by decide))]; rw [bis (w := w3) (hF 3 (by decide))]; rw [bis (w := w3) (hF 4 (by decide))]; rw [bis (w := w3) (hF 5 (by decide))]; rw [bis (w := w3) (hF 6 (by decide))]; rw [bis (w := w3) (hF 7 (by decide))]; rw [bis (w := w3) (hF 8 (by decide))]; rw [bis (w := w3) (hF 9 (by decide))]; rw [bis (w := w3) (hF 10 (by decide))]; rw [bis (w := w3) (hF 14 (by decide))]; have h8 := hF 15 (by decide); generalize u 15 = v8 at *; rw [bis (w := w3) (hF 17 (by decide))]; generalize u 11 = vx11 at *; generalize u 12 = vx12 at *; generalize u 13 = vx13 at *; generalize u 16 = vx16 at *; clear hF
        obtain ⟨q0, a0, n0, p0, rfl, hq1, hq2, g0, gf, hr3, hb3⟩ := h8
        replace c1 := (hb3.cell (p := ⟨b, o + k * 2 + 1, none⟩) hbl).trans c1
        replace d1 := (hb3.cell (p := ⟨b, o + (k + 1) * 2 + 1, none⟩) hbl).trans d1
        replace hbl := Nat.lt_of_lt_of_le hbl hb3.size
        clear hr3 c0 d0 g0 gf
        have hw_w3 := hw_wr.trans (hb3.mono hw_wr.size)
        clear hw_wr
        replace HS := Lib.hid (HS.out.below hb3)
        replace HT := Lib.hid (HT.out.below hb3)
        replace HX := Lib.hid (HX.out.below hb3)
        replace HBB := Lib.hid (HBB.out.trans (hb3.mono HBB.out.size))
        clear hb3
        cases q
        · go_wp2_with fail
          refine wp_region_over (by kernel_rfl) (by kernel_rfl) (fun ov => ?_); have ov0 := fun x => ov x (b) (by (try simp) <;> omega); clear ov; (iterate 9 (iterate 8 (try go_big_quiet_step (first | fail)))); refine wpQuiet_nil ?_; intro w4 hw9; have hb_w4 := below_over hw9; clear hw9 ov0
          have hw_w4 := hw_w3.trans (hb_w4.mono hw_w3.size)
          clear hw_w3
          replace HS := Lib.hid (HS.out.below hb_w4)
          replace HT := Lib.hid (HT.out.below hb_w4)
          replace HX := Lib.hid (HX.out.below hb_w4)
          replace HBB := Lib.hid (HBB.out.trans (hb_w4.mono HBB.out.size))
          go_wp2
          go_roundw
          case rel => exact ⟨k + 1, by omega, by go_num, HBB.out⟩
          case measure => simp [intOf]; omega
        · have hne : (fa == ga) = false := by simpa using HPR.out
          go_wp2_with fail
          refine wp_region_over (by kernel_rfl) (by kernel_rfl) (fun ov => ?_); have ov0 := fun x => ov x (b) (by (try simp) <;> omega); clear ov; (iterate 9 (iterate 8 (try go_big_quiet_step (first | fail)))); refine wpQuiet_nil ?_; intro w4 hw9; have hb_w4 := below_over hw9; clear hw9 ov0
          have hw_w4 := hw_w3.trans (hb_w4.mono hw_w3.size)
          clear hw_w3
          replace HS := Lib.hid (HS.out.below hb_w4)
          replace HT := Lib.hid (HT.out.below hb_w4)
          replace HX := Lib.hid (HX.out.below hb_w4)
          replace HBB := Lib.hid (HBB.out.trans (hb_w4.mono HBB.out.size))
          go_wp2
          go_roundw
          case rel => exact ⟨k + 1, by omega, by go_num, HBB.out⟩
          case measure => simp [intOf]; omega
      · have i1 : ¬ (k : Int) + 1 < (m : Int) := by omega
        have i0 : (0 : Int) ≤ (k : Int) := by omega
        obtain ⟨rb, hrb⟩ : ∃ rb : Bool, (((sd : Int) % 2) == 0) = rb := ⟨_, rfl⟩
        have hpb : ∀ (k' : Nat) b', (fbx fs)[k']? = some b' → b'.length ≤ 100 ∧ ∀ (j : Nat) xs, b'[j]? = some xs → xs.length ≤ 1000 := fun k' b' hb' => by
          rw [fbx, hv] at hb'
          simp only [if_true, fboxes, List.getElem?_map, Option.map_eq_some_iff] at hb'
          obtain ⟨f, hf, rfl⟩ := hb'
          exact ⟨by have := (HOK.out k' f hf).1; omega, fun j xs hx => by have := (HOK.out k' f hf).2 j xs hx; omega⟩
        have hpl : (fbx fs).length ≤ 100 := by
          rw [fbx, hv]; simp [fboxes]; omega
        have HPB := Lib.hid hpb
        have HPL := Lib.hid hpl
        clear hpb hpl
        go_wp2_with fail
        refine (implFB_any fs _ _ HS.out HT.out).mono ?_
        rintro e w8 ⟨v4, rfl, hx4, hb_w8⟩
        have hw_w8 := hw_wr.trans (hb_w8.mono hw_wr.size)
        clear hw_wr
        replace HS := Lib.hid (HS.out.below hb_w8)
        replace HT := Lib.hid (HT.out.below hb_w8)
        replace HX := Lib.hid (HX.out.below hb_w8)
        replace HBB := Lib.hid (HBB.out.trans (hb_w8.mono HBB.out.size))
        have HFB := Lib.hid (hx4)
        clear hb_w8 hx4
        go_wp2_with fail
        refine (probe_any (fbx fs) v4 sd _ HFB.out hsd HPL.out HPB.out).mono ?_
        rintro e w9 ⟨⟨pa, pb, pc, pd⟩, rfl, hb_w9⟩
        have hw_w9 := hw_w8.trans (hb_w9.mono hw_w8.size)
        clear hw_w8
        replace HS := Lib.hid (HS.out.below hb_w9)
        replace HT := Lib.hid (HT.out.below hb_w9)
        replace HX := Lib.hid (HX.out.below hb_w9)
        replace HBB := Lib.hid (HBB.out.trans (hb_w9.mono HBB.out.size))
        replace HFB := Lib.hid (HFB.out.below hb_w9)
        clear hb_w9 
        clear HFB
        obtain ⟨W, hW⟩ : ∃ W, w9.alloc (.cells #[.int .i64 pa, .int .i64 pb, .int .i64 pc, .int .i64 pd] 30) = W := ⟨_, rfl⟩
        have hal : Below w9.heap.size w9 W := by rw [← hW]; exact (Below.refl _ _).alloc (Nat.le_refl _) _
        have hbx : Box4 W w9.heap.size pa pb pc pd := by rw [← hW]; exact Box4.new w9 pa pb pc pd _
        have hw_W := hw_w9.trans (hal.mono hw_w9.size)
        clear hw_w9
        replace HS := Lib.hid (HS.out.below hal)
        replace HT := Lib.hid (HT.out.below hal)
        replace HX := Lib.hid (HX.out.below hal)
        replace HBB := Lib.hid (HBB.out.trans (hal.mono HBB.out.size))
        have HP := Lib.hid (hbx)
        clear hal hbx
        obtain ⟨jq, hj1⟩ : ∃ jq, jfl R rb ⟨pa, pb, pc, pd⟩ = jq := ⟨_, rfl⟩
        have HJ2 := Lib.hid (show jfl fs rb ⟨pa, pb, pc, pd⟩ = jq by rw [← hj1, ← HR.out, mgf_jfl hv])
        have HJ1 := Lib.hid hj1
        clear hj1 HPB HPL
        obtain ⟨n, hn⟩ : ∃ n, fs.length = n := ⟨_, rfl⟩
        rw [hn] at HS hlc_sa hln hlen ⊢
        have hme2 : (m : Int) ≤ (n : Int) := by omega
        have hme : decide ((m : Int) ≤ (n : Int)) = true := decide_eq_true hme2
        clear hn hln
        cases jq
        · obtain ⟨zl, z0, z1, z2, z3, zf⟩ := HP.out
          go_wp2_with fail
          (refine wp_region_belG (W := W) [BIs (.slice xa m xc), BIs (.bool rb), BIs (.agg #[.int .i64 pa, .int .i64 pb, .int .i64 pc, .int .i64 pd]), (BIs (.bool false)), BIs (.slice sa n sc), BIs (.bool rb), BIs (.agg #[.int .i64 pa, .int .i64 pb, .int .i64 pc, .int .i64 pd]), (BIs (.bool false)), BIs (.bool true), BIs (.bool true), BIs (.slice xa m xc), BIs (.int .i64 (m : Int)), BIs (.slice sa n sc), BIs (.int .i64 (n : Int)), BIs (.bool true), BIs (.bool true), BIs (.bool true)] (by kernel_rfl) (fun u => by simp only [frU, Act.put, List.setIfInBounds_toArray, List.set_cons_succ, List.set_cons_zero, Nat.zero_add, Nat.reduceAdd]; exact rfl) (by kernel_rfl) ⟨bst_is _, bst_is _, bst_is _, (bst_is _), bst_is _, bst_is _, bst_is _, (bst_is _), bst_is _, bst_is _, bst_is _, bst_is _, bst_is _, bst_is _, bst_is _, bst_is _, bst_is _, trivial⟩ ?_ ?_; exact ⟨stG (fun u w3 hC hd => ⟨rfl, fun Q K hK => by (go_step; exact hK _ _ rfl (Below.refl _ _) rfl)⟩), stG (fun u w3 hC hd => ⟨rfl, fun Q K hK => by (go_step; exact hK _ _ rfl (Below.refl _ _) rfl)⟩), stG (fun u w3 hC hd => ⟨rfl, fun Q K hK => by (have e0 := (hC.cell (p := ⟨w9.heap.size, 0, none⟩) zl).trans z0; have e1 := (hC.cell (p := ⟨w9.heap.size, 1, none⟩) zl).trans z1; have e2 := (hC.cell (p := ⟨w9.heap.size, 2, none⟩) zl).trans z2; have e3 := (hC.cell (p := ⟨w9.heap.size, 3, none⟩) zl).trans z3; go_step; exact hK _ _ rfl (Below.refl _ _) rfl)⟩), stG (fun u w3 hC hd => ⟨rfl, fun Q K hK => by (have hu := bis (w := w3) (hd 0 rfl); rw [hu] at hK ⊢; clear hu; have hu := bis (w := w3) (hd 1 rfl); rw [hu] at hK ⊢; clear hu; have hu := bis (w := w3) (hd 2 rfl); rw [hu] at hK ⊢; clear hu; go_step; refine (implJF_b (HX.out.below hC) (HT.out.below hC) HJ1.out).mono ?_; rintro e w4 ⟨rfl, hb4⟩; exact hK _ _ rfl hb4 rfl)⟩), stG (fun u w3 hC hd => ⟨rfl, fun Q K hK => by (go_step; exact hK _ _ rfl (Below.refl _ _) rfl)⟩), stG (fun u w3 hC hd => ⟨rfl, fun Q K hK => by (go_step; exact hK _ _ rfl (Below.refl _ _) rfl)⟩), stG (fun u w3 hC hd => ⟨rfl, fun Q K hK => by (have e0 := (hC.cell (p := ⟨w9.heap.size, 0, none⟩) zl).trans z0; have e1 := (hC.cell (p := ⟨w9.heap.size, 1, none⟩) zl).trans z1; have e2 := (hC.cell (p := ⟨w9.heap.size, 2, none⟩) zl).trans z2; have e3 := (hC.cell (p := ⟨w9.heap.size, 3, none⟩) zl).trans z3; go_step; exact hK _ _ rfl (Below.refl _ _) rfl)⟩), stG (fun u w3 hC hd => ⟨rfl, fun Q K hK => by (have hu := bis (w := w3) (hd 4 rfl); rw [hu] at hK ⊢; clear hu; have hu := bis (w := w3) (hd 5 rfl); rw [hu] at hK ⊢; clear hu; have hu := bis (w := w3) (hd 6 rfl); rw [hu] at hK ⊢; clear hu; go_step; refine (implJF_b (HS.out.below hC) (HT.out.below hC) HJ2.out).mono ?_; rintro e w4 ⟨rfl, hb4⟩; exact hK _ _ rfl hb4 rfl)⟩), stG (fun u w3 hC hd => ⟨rfl, fun Q K hK => by (have hu := bis (w := w3) (hd 3 rfl); rw [hu] at hK ⊢; clear hu; have hu := bis (w := w3) (hd 7 rfl); rw [hu] at hK ⊢; clear hu; go_step; exact hK _ _ rfl (Below.refl _ _) rfl)⟩), stG (fun u w3 hC hd => ⟨rfl, fun Q K hK => by (have hu := bis (w := w3) (hd 8 rfl); rw [hu] at hK ⊢; clear hu; go_step; exact hK _ _ rfl (Below.refl _ _) rfl)⟩), stG (fun u w3 hC hd => ⟨by (have hu := bis (w := w3) (hd 9 rfl); rw [hu]; rfl), fun Q K hK => by (go_step; exact hK _ _ rfl (Below.refl _ _) rfl)⟩), stG (fun u w3 hC hd => ⟨by (have hu := bis (w := w3) (hd 9 rfl); rw [hu]; rfl), fun Q K hK => by (have hu := bis (w := w3) (hd 10 rfl); rw [hu] at hK ⊢; clear hu; go_step; exact hK _ _ rfl (Below.refl _ _) rfl)⟩), stG (fun u w3 hC hd => ⟨by (have hu := bis (w := w3) (hd 9 rfl); rw [hu]; rfl), fun Q K hK => by (go_step; exact hK _ _ rfl (Below.refl _ _) rfl)⟩), stG (fun u w3 hC hd => ⟨by (have hu := bis (w := w3) (hd 9 rfl); rw [hu]; rfl), fun Q K hK => by (have hu := bis (w := w3) (hd 12 rfl); rw [hu] at hK ⊢; clear hu; go_step; exact hK _ _ rfl (Below.refl _ _) rfl)⟩), stG (fun u w3 hC hd => ⟨by (have hu := bis (w := w3) (hd 9 rfl); rw [hu]; rfl), fun Q K hK => by (have hu := bis (w := w3) (hd 11 rfl); rw [hu] at hK ⊢; clear hu; have hu := bis (w := w3) (hd 13 rfl); rw [hu] at hK ⊢; clear hu; go_step; exact hK _ _ rfl (Below.refl _ _) rfl)⟩), stG (fun u w3 hC hd => ⟨rfl, fun Q K hK => by (have hu := bis (w := w3) (hd 9 rfl); rw [hu] at hK ⊢; clear hu; have hu := bis (w := w3) (hd 14 rfl); rw [hu] at hK ⊢; clear hu; go_step; exact hK _ _ rfl (Below.refl _ _) rfl)⟩), stG (fun u w3 hC hd => ⟨rfl, fun Q K hK => by (have hu := bis (w := w3) (hd 15 rfl); rw [hu] at hK ⊢; clear hu; go_step; exact hK _ _ rfl (Below.refl _ _) rfl)⟩), trivial⟩); intro u wz hb_wz hF; rw [bis (w := wz) (hF 0 (by decide))]; rw [bis (w := wz) (hF 1 (by decide))]; rw [bis (w := wz) (hF 2 (by decide))]; generalize u 3 = vx3 at *; rw [bis (w := wz) (hF 4 (by decide))]; rw [bis (w := wz) (hF 5 (by decide))]; rw [bis (w := wz) (hF 6 (by decide))]; generalize u 7 = vx7 at *; rw [bis (w := wz) (hF 8 (by decide))]; rw [bis (w := wz) (hF 9 (by decide))]; rw [bis (w := wz) (hF 10 (by decide))]; rw [bis (w := wz) (hF 11 (by decide))]; rw [bis (w := wz) (hF 12 (by decide))]; rw [bis (w := wz) (hF 13 (by decide))]; rw [bis (w := wz) (hF 14 (by decide))]; rw [bis (w := wz) (hF 15 (by decide))]; rw [bis (w := wz) (hF 16 (by decide))]; clear hF
          have hw_wz := hw_W.trans (hb_wz.mono hw_W.size)
          clear hw_W
          replace HS := Lib.hid (HS.out.below hb_wz)
          replace HT := Lib.hid (HT.out.below hb_wz)
          replace HX := Lib.hid (HX.out.below hb_wz)
          replace HBB := Lib.hid (HBB.out.trans (hb_wz.mono HBB.out.size))
          replace HP := Lib.hid (Box4.bel HP.out hb_wz)
          go_wp2
          go_ret
          exact ⟨rfl, hw_wz⟩
        · obtain ⟨zl, z0, z1, z2, z3, zf⟩ := HP.out
          go_wp2_with fail
          (refine wp_region_belG (W := W) [BIs (.slice xa m xc), BIs (.bool rb), BIs (.agg #[.int .i64 pa, .int .i64 pb, .int .i64 pc, .int .i64 pd]), (BIs (.bool true)), BIs (.slice sa n sc), BIs (.bool rb), BIs (.agg #[.int .i64 pa, .int .i64 pb, .int .i64 pc, .int .i64 pd]), (BIs (.bool true)), BIs (.bool true), BIs (.bool true), BIs (.slice xa m xc), BIs (.int .i64 (m : Int)), BIs (.slice sa n sc), BIs (.int .i64 (n : Int)), BIs (.bool true), BIs (.bool true), BIs (.bool true)] (by kernel_rfl) (fun u => by simp only [frU, Act.put, List.setIfInBounds_toArray, List.set_cons_succ, List.set_cons_zero, Nat.zero_add, Nat.reduceAdd]; exact rfl) (by kernel_rfl) ⟨bst_is _, bst_is _, bst_is _, (bst_is _), bst_is _, bst_is _, bst_is _, (bst_is _), bst_is _, bst_is _, bst_is _, bst_is _, bst_is _, bst_is _, bst_is _, bst_is _, bst_is _, trivial⟩ ?_ ?_; exact ⟨stG (fun u w3 hC hd => ⟨rfl, fun Q K hK => by (go_step; exact hK _ _ rfl (Below.refl _ _) rfl)⟩), stG (fun u w3 hC hd => ⟨rfl, fun Q K hK => by (go_step; exact hK _ _ rfl (Below.refl _ _) rfl)⟩), stG (fun u w3 hC hd => ⟨rfl, fun Q K hK => by (have e0 := (hC.cell (p := ⟨w9.heap.size, 0, none⟩) zl).trans z0; have e1 := (hC.cell (p := ⟨w9.heap.size, 1, none⟩) zl).trans z1; have e2 := (hC.cell (p := ⟨w9.heap.size, 2, none⟩) zl).trans z2; have e3 := (hC.cell (p := ⟨w9.heap.size, 3, none⟩) zl).trans z3; go_step; exact hK _ _ rfl (Below.refl _ _) rfl)⟩), stG (fun u w3 hC hd => ⟨rfl, fun Q K hK => by (have hu := bis (w := w3) (hd 0 rfl); rw [hu] at hK ⊢; clear hu; have hu := bis (w := w3) (hd 1 rfl); rw [hu] at hK ⊢; clear hu; have hu := bis (w := w3) (hd 2 rfl); rw [hu] at hK ⊢; clear hu; go_step; refine (implJF_b (HX.out.below hC) (HT.out.below hC) HJ1.out).mono ?_; rintro e w4 ⟨rfl, hb4⟩; exact hK _ _ rfl hb4 rfl)⟩), stG (fun u w3 hC hd => ⟨rfl, fun Q K hK => by (go_step; exact hK _ _ rfl (Below.refl _ _) rfl)⟩), stG (fun u w3 hC hd => ⟨rfl, fun Q K hK => by (go_step; exact hK _ _ rfl (Below.refl _ _) rfl)⟩), stG (fun u w3 hC hd => ⟨rfl, fun Q K hK => by (have e0 := (hC.cell (p := ⟨w9.heap.size, 0, none⟩) zl).trans z0; have e1 := (hC.cell (p := ⟨w9.heap.size, 1, none⟩) zl).trans z1; have e2 := (hC.cell (p := ⟨w9.heap.size, 2, none⟩) zl).trans z2; have e3 := (hC.cell (p := ⟨w9.heap.size, 3, none⟩) zl).trans z3; go_step; exact hK _ _ rfl (Below.refl _ _) rfl)⟩), stG (fun u w3 hC hd => ⟨rfl, fun Q K hK => by (have hu := bis (w := w3) (hd 4 rfl); rw [hu] at hK ⊢; clear hu; have hu := bis (w := w3) (hd 5 rfl); rw [hu] at hK ⊢; clear hu; have hu := bis (w := w3) (hd 6 rfl); rw [hu] at hK ⊢; clear hu; go_step; refine (implJF_b (HS.out.below hC) (HT.out.below hC) HJ2.out).mono ?_; rintro e w4 ⟨rfl, hb4⟩; exact hK _ _ rfl hb4 rfl)⟩), stG (fun u w3 hC hd => ⟨rfl, fun Q K hK => by (have hu := bis (w := w3) (hd 3 rfl); rw [hu] at hK ⊢; clear hu; have hu := bis (w := w3) (hd 7 rfl); rw [hu] at hK ⊢; clear hu; go_step; exact hK _ _ rfl (Below.refl _ _) rfl)⟩), stG (fun u w3 hC hd => ⟨rfl, fun Q K hK => by (have hu := bis (w := w3) (hd 8 rfl); rw [hu] at hK ⊢; clear hu; go_step; exact hK _ _ rfl (Below.refl _ _) rfl)⟩), stG (fun u w3 hC hd => ⟨by (have hu := bis (w := w3) (hd 9 rfl); rw [hu]; rfl), fun Q K hK => by (go_step; exact hK _ _ rfl (Below.refl _ _) rfl)⟩), stG (fun u w3 hC hd => ⟨by (have hu := bis (w := w3) (hd 9 rfl); rw [hu]; rfl), fun Q K hK => by (have hu := bis (w := w3) (hd 10 rfl); rw [hu] at hK ⊢; clear hu; go_step; exact hK _ _ rfl (Below.refl _ _) rfl)⟩), stG (fun u w3 hC hd => ⟨by (have hu := bis (w := w3) (hd 9 rfl); rw [hu]; rfl), fun Q K hK => by (go_step; exact hK _ _ rfl (Below.refl _ _) rfl)⟩), stG (fun u w3 hC hd => ⟨by (have hu := bis (w := w3) (hd 9 rfl); rw [hu]; rfl), fun Q K hK => by (have hu := bis (w := w3) (hd 12 rfl); rw [hu] at hK ⊢; clear hu; go_step; exact hK _ _ rfl (Below.refl _ _) rfl)⟩), stG (fun u w3 hC hd => ⟨by (have hu := bis (w := w3) (hd 9 rfl); rw [hu]; rfl), fun Q K hK => by (have hu := bis (w := w3) (hd 11 rfl); rw [hu] at hK ⊢; clear hu; have hu := bis (w := w3) (hd 13 rfl); rw [hu] at hK ⊢; clear hu; go_step; exact hK _ _ rfl (Below.refl _ _) rfl)⟩), stG (fun u w3 hC hd => ⟨rfl, fun Q K hK => by (have hu := bis (w := w3) (hd 9 rfl); rw [hu] at hK ⊢; clear hu; have hu := bis (w := w3) (hd 14 rfl); rw [hu] at hK ⊢; clear hu; go_step; exact hK _ _ rfl (Below.refl _ _) rfl)⟩), stG (fun u w3 hC hd => ⟨rfl, fun Q K hK => by (have hu := bis (w := w3) (hd 15 rfl); rw [hu] at hK ⊢; clear hu; go_step; exact hK _ _ rfl (Below.refl _ _) rfl)⟩), trivial⟩); intro u wz hb_wz hF; rw [bis (w := wz) (hF 0 (by decide))]; rw [bis (w := wz) (hF 1 (by decide))]; rw [bis (w := wz) (hF 2 (by decide))]; generalize u 3 = vx3 at *; rw [bis (w := wz) (hF 4 (by decide))]; rw [bis (w := wz) (hF 5 (by decide))]; rw [bis (w := wz) (hF 6 (by decide))]; generalize u 7 = vx7 at *; rw [bis (w := wz) (hF 8 (by decide))]; rw [bis (w := wz) (hF 9 (by decide))]; rw [bis (w := wz) (hF 10 (by decide))]; rw [bis (w := wz) (hF 11 (by decide))]; rw [bis (w := wz) (hF 12 (by decide))]; rw [bis (w := wz) (hF 13 (by decide))]; rw [bis (w := wz) (hF 14 (by decide))]; rw [bis (w := wz) (hF 15 (by decide))]; rw [bis (w := wz) (hF 16 (by decide))]; clear hF
          have hw_wz := hw_W.trans (hb_wz.mono hw_W.size)
          clear hw_W
          replace HS := Lib.hid (HS.out.below hb_wz)
          replace HT := Lib.hid (HT.out.below hb_wz)
          replace HX := Lib.hid (HX.out.below hb_wz)
          replace HBB := Lib.hid (HBB.out.trans (hb_wz.mono HBB.out.size))
          replace HP := Lib.hid (Box4.bel HP.out hb_wz)
          go_wp2
          go_ret
          exact ⟨rfl, hw_wz⟩
end Go.Proofs.YtojafgooobpoiaaDoor
