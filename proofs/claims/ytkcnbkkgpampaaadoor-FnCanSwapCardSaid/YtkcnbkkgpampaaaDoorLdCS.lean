/- The law FnCanSwap: the walk. -/
import Derived.Test.YtkcnbkkgpampaaaDoorFsS
import Derived.Test.YtkcnbkkgpampaaaDoorFsW
import Derived.Test.YtkcnbkkgpampaaaDoorDx
import Derived.Test.YtkcnbkkgpampaaaDoorAlive
namespace Go.Proofs.YtkcnbkkgpampaaaDoor
open Go.RowKit
set_option maxHeartbeats 1000000 in
theorem drawCS_any (bs : List Int) (v : Value) (w : World) (h : CodeAt w v bs) : Calls Tryd.prog 36 #[v] w (DrewLP w) := by
  go_enter Tryd.func36, Tryd.ntmps36
  go_wp2_with fail
  refine (drawLP_any bs _ _ h).mono ?_
  rintro e w1 ⟨v1, fs, n, rfl, h1, h2, h3⟩
  go_wp2
  go_ret2
  exact ⟨_, fs, n, rfl, h1, h2, h3⟩
theorem cansw_in {fs : List Ft} {n : Int} (h : cansw fs n = true) : fvalid fs = true ∧ 0 ≤ n ∧ n ≤ (fs.length : Int) - 2 := by
  unfold cansw at h
  simp only [Bool.and_eq_true, inB_iff] at h
  exact ⟨h.1.1, h.1.2⟩
set_option maxHeartbeats 4000000 in
set_option maxRecDepth 100000 in
theorem law_FnCanSwap (bs bs2 : List Int) (v v2 : Value) (w : World) (h : CodeAt w v bs) (h2 : CodeAt w v2 bs2) (ht : Tab w) :
    Calls Tryd.prog 8 #[v, v2] w fun e w' => e = .returned (.bool true) ∧ Below w.heap.size w w' := by
  obtain ⟨a, cap, rfl, l1, l2, -⟩ := code_cells h
  obtain ⟨a2, cap2, rfl, m1, m2, -⟩ := code_cells h2
  unfold maxLen at l2 m2
  by_cases hl : 1048576 < bs.length
  · go_enter Tryd.func8, Tryd.ntmps8
    go_wp2
    go_ret
    exact ⟨rfl, by (repeat' (first | with_reducible exact Below.refl _ _ | with_reducible assumption | with_reducible refine Below.setCell ?_ ?_ _ | with_reducible refine Below.alloc ?_ ?_ _ | with_reducible refine Below.drew ?_ | with_reducible refine belDrewN ?_ _ | with_reducible refine Below.trans ?_ (Below.mono (by assumption) ?_) | omega | (simp; omega) | (simp; done)))⟩
  · by_cases hl2 : 1048576 < bs2.length
    · go_enter Tryd.func8, Tryd.ntmps8
      go_wp2
      go_ret
      exact ⟨rfl, by (repeat' (first | with_reducible exact Below.refl _ _ | with_reducible assumption | with_reducible refine Below.setCell ?_ ?_ _ | with_reducible refine Below.alloc ?_ ?_ _ | with_reducible refine Below.drew ?_ | with_reducible refine belDrewN ?_ _ | with_reducible refine Below.trans ?_ (Below.mono (by assumption) ?_) | omega | (simp; omega) | (simp; done)))⟩
    · have hsd : bs2.length ≤ 1048576 := by omega
      generalize bs2.length = sd at *
      go_enter Tryd.func8, Tryd.ntmps8
      go_wp2_with fail
      refine (drawCS_any _ _ _ h).mono ?_
      rintro e w0 ⟨v0, fs, n, rfl, ⟨ho, hlen, hok, hb0⟩, hn0, hn1⟩
      have hs0 : Fts 0 w0 v0 fs := ho.fts.mono (Nat.zero_le _)
      have ht0 := ht.below hb0
      obtain ⟨sa, sc, rfl, hlc, hcm⟩ := hs0.form
      unfold maxLen at hcm
      obtain ⟨r, hr⟩ : ∃ r, cansw fs n = r := ⟨_, rfl⟩
      go_wp2_with fail
      refine (implCS_b hs0 ht0 hr).mono ?_
      rintro e w1 ⟨rfl, hb1⟩
      have hs1 := hs0.below hb1
      have hw1 := hb0.trans (hb1.mono hb0.size)
      have hrr : (r != r) = false := by cases r <;> rfl
      go_wp2_with fail
      refine (specCS_b hs1 hr).mono ?_
      rintro e w2 ⟨rfl, hb2⟩
      have hs2 := hs1.below hb2
      have hw2 := hw1.trans (hb2.mono hw1.size)
      have ht2 := ht.below hw2
      clear hb0 hb1 hb2 hs0 hs1 hw1 ht0
      cases hfv : fvalid fs
      · have hrf : r = false := by rw [← hr]; simp [cansw, hfv]
        subst hrf
        go_wp2_with fail
        refine (specFV_b hs2 hfv).mono ?_
        rintro e w3 ⟨rfl, hb3⟩
        have hw3 := hw2.trans (hb3.mono hw2.size)
        go_wp2_with fail
        refine (alive_any _).mono ?_
        rintro e w4 ⟨rfl, hb4⟩
        have hw4 := hw3.trans (hb4.mono hw3.size)
        go_wp2
        go_ret
        exact ⟨rfl, hw4⟩
      · by_cases hin : 0 ≤ n ∧ n + 1 < (fs.length : Int)
        · obtain ⟨g0, g1⟩ := hin
          obtain ⟨k, rfl⟩ := Int.eq_ofNat_of_zero_le g0
          obtain ⟨f, hf⟩ : ∃ f, fs[k]? = some f := ⟨_, List.getElem?_eq_getElem (by omega)⟩
          obtain ⟨g, hg⟩ : ∃ g, fs[k + 1]? = some g := ⟨_, List.getElem?_eq_getElem (by omega)⟩
          generalize hmm : fs.length = m at *
          have g0' : ¬ (k : Int) < 0 := by omega
          have g1' : ¬ (m : Int) ≤ (k : Int) + 1 := by omega
          have g2 : (k : Int) < (m : Int) := by omega
          go_wp2_with fail
          refine (specFV_b hs2 hfv).mono ?_
          rintro e w3 ⟨rfl, hb3⟩
          have hw3 := hw2.trans (hb3.mono hw2.size)
          have hs3 := hs2.below hb3
          have ht3 := ht2.below hb3
          obtain ⟨b, o, sv, rfl, hbl, c0, c1, hsv⟩ := hs3.at hf
          obtain ⟨b', o', tv, he, hbl', d0, d1, htv⟩ := hs3.at hg
          obtain ⟨rfl, rfl, -⟩ := Addr.mk.inj (Option.some.inj he)
          obtain ⟨x1, y1, rfl, -, -⟩ := hsv.form
          obtain ⟨x2, y2, rfl, -, -⟩ := htv.form
          clear hb3
          have hpb : ∀ (k' : Nat) b', [f.box, g.box][k']? = some b' → b'.length ≤ 100 ∧ ∀ (j : Nat) xs, b'[j]? = some xs → xs.length ≤ 1000 := fun k' b' hb' => by
            match k', hb' with
            | 0, hb' => cases hb'; exact ⟨by have := (hok k f hf).1; omega, fun j xs hx => by have := (hok k f hf).2 j xs hx; omega⟩
            | 1, hb' => cases hb'; exact ⟨by have := (hok (k + 1) g hg).1; omega, fun j xs hx => by have := (hok (k + 1) g hg).2 j xs hx; omega⟩
            | k' + 2, hb' => simp at hb'
          go_wp2_with fail
          refine wp_region_last (fun _ w => Below w3.heap.size w3 w) (fun a b => Below a.heap.size a b) (bof [BIs (.slice (some ⟨b, o, none⟩) m sc), BIs (.int .i64 (k : Int)), BIs (.pointer (some ⟨b, o + k * 2, none⟩)), BIs (.pointer (some ⟨b, o + k * 2, none⟩)), BIs (.agg #[.slice x1 f.box.length y1]), BIs (.slice (some ⟨b, o, none⟩) m sc), BIs (.int .i64 (k : Int)), BIs (.int .i64 ((k : Int) + 1)), BIs (.pointer (some ⟨b, o + (k + 1) * 2, none⟩)), BIs (.pointer (some ⟨b, o + (k + 1) * 2, none⟩)), BIs (.agg #[.slice x2 g.box.length y2]), (fun w v => ∃ q, v = .slice (some ⟨q, 0, none⟩) 2 2 ∧ Bxs 0 w (.slice (some ⟨q, 0, none⟩) 2 2) [f.box, g.box]), BIs (.slice a2 sd cap2), BIs (.int .i64 (sd : Int)), (FPr), (FPk w3.heap.size)]) (GPk 15) (fun w9 => Below w3.heap.size w3 w9) 16 (by kernel_rfl) rfl (fun u => by simp only [frU, Act.put, List.setIfInBounds_toArray, List.set_cons_succ, List.set_cons_zero, Nat.zero_add, Nat.reduceAdd]; exact rfl) (by kernel_rfl) (by kernel_rfl) (fun i w w' v hb h => bof_stb [BIs (.slice (some ⟨b, o, none⟩) m sc), BIs (.int .i64 (k : Int)), BIs (.pointer (some ⟨b, o + k * 2, none⟩)), BIs (.pointer (some ⟨b, o + k * 2, none⟩)), BIs (.agg #[.slice x1 f.box.length y1]), BIs (.slice (some ⟨b, o, none⟩) m sc), BIs (.int .i64 (k : Int)), BIs (.int .i64 ((k : Int) + 1)), BIs (.pointer (some ⟨b, o + (k + 1) * 2, none⟩)), BIs (.pointer (some ⟨b, o + (k + 1) * 2, none⟩)), BIs (.agg #[.slice x2 g.box.length y2]), (fun w v => ∃ q, v = .slice (some ⟨q, 0, none⟩) 2 2 ∧ Bxs 0 w (.slice (some ⟨q, 0, none⟩) 2 2) [f.box, g.box]), BIs (.slice a2 sd cap2), BIs (.int .i64 (sd : Int)), (FPr), (FPk w3.heap.size)] ⟨bst_is _, bst_is _, bst_is _, bst_is _, bst_is _, bst_is _, bst_is _, bst_is _, bst_is _, bst_is _, bst_is _, (fun _ _ _ hb ⟨q, h1, h2⟩ => ⟨q, h1, h2.below hb⟩), bst_is _, bst_is _, (fun _ _ _ _ h => h), (bst_pk _), trivial⟩ i w w' v hb h) ⟨rfl, rfl, rfl, Nat.le_refl _, fun _ _ => rfl⟩ ?_ ?_; (exact ⟨stSb rfl (fun u w3 hC hd Q K hK => by (go_step; exact hK _ _ rfl (Below.refl _ _) rfl)), stSb rfl (fun u w3 hC hd Q K hK => by (go_step; exact hK _ _ rfl (Below.refl _ _) rfl)), stSb rfl (fun u w3 hC hd Q K hK => by (have hu := bis (w := w3) (hd 0 rfl); rw [hu] at hK ⊢; clear hu; have hu := bis (w := w3) (hd 1 rfl); rw [hu] at hK ⊢; clear hu; go_step; exact hK _ _ rfl (Below.refl _ _) rfl)), stSb rfl (fun u w3 hC hd Q K hK => by (have hu := bis (w := w3) (hd 2 rfl); rw [hu] at hK ⊢; clear hu; go_step; exact hK _ _ rfl (Below.refl _ _) rfl)), stSb rfl (fun u w3 hC hd Q K hK => by (have hu := bis (w := w3) (hd 3 rfl); rw [hu] at hK ⊢; clear hu; have z0 := (hC.cell (p := ⟨b, o + k * 2, none⟩) hbl).trans c0; go_step; exact hK _ _ rfl (Below.refl _ _) rfl)), stSb rfl (fun u w3 hC hd Q K hK => by (go_step; exact hK _ _ rfl (Below.refl _ _) rfl)), stSb rfl (fun u w3 hC hd Q K hK => by (go_step; exact hK _ _ rfl (Below.refl _ _) rfl)), stSb rfl (fun u w3 hC hd Q K hK => by (have hu := bis (w := w3) (hd 6 rfl); rw [hu] at hK ⊢; clear hu; go_step; exact hK _ _ rfl (Below.refl _ _) rfl)), stSb rfl (fun u w3 hC hd Q K hK => by (have hu := bis (w := w3) (hd 5 rfl); rw [hu] at hK ⊢; clear hu; have hu := bis (w := w3) (hd 7 rfl); rw [hu] at hK ⊢; clear hu; go_step; exact hK _ _ rfl (Below.refl _ _) rfl)), stSb rfl (fun u w3 hC hd Q K hK => by (have hu := bis (w := w3) (hd 8 rfl); rw [hu] at hK ⊢; clear hu; go_step; exact hK _ _ rfl (Below.refl _ _) rfl)), stSb rfl (fun u w3 hC hd Q K hK => by (have hu := bis (w := w3) (hd 9 rfl); rw [hu] at hK ⊢; clear hu; have z0 := (hC.cell (p := ⟨b, o + (k + 1) * 2, none⟩) hbl).trans d0; go_step; exact hK _ _ rfl (Below.refl _ _) rfl)), stSb rfl (fun u w3 hC hd Q K hK => by (have hu := bis (w := w3) (hd 4 rfl); rw [hu] at hK ⊢; clear hu; have hu := bis (w := w3) (hd 10 rfl); rw [hu] at hK ⊢; clear hu; go_step; exact hK _ _ rfl ((Below.refl _ _).alloc (Nat.le_refl _) _) ⟨_, rfl, bxs2 (hsv.below hC) (htv.below hC) _⟩)), stSb rfl (fun u w3 hC hd Q K hK => by (go_step; exact hK _ _ rfl (Below.refl _ _) rfl)), stSb rfl (fun u w3 hC hd Q K hK => by (have hu := bis (w := w3) (hd 12 rfl); rw [hu] at hK ⊢; clear hu; go_step; exact hK _ _ rfl (Below.refl _ _) rfl)), stSb rfl (fun u w3 hC hd Q K hK => by (obtain ⟨q, hu, hbx⟩ := hd 11 rfl; rw [hu] at hK ⊢; clear hu; have hu := bis (w := w3) (hd 13 rfl); rw [hu] at hK ⊢; clear hu; go_step; refine (probe_any [f.box, g.box] _ sd _ hbx hsd (by simp) hpb).mono ?_; rintro e w4 ⟨⟨xa, xb, xc, xd⟩, rfl, hb4⟩; exact hK _ _ rfl hb4 ⟨xa, xb, xc, xd, rfl⟩)), stSb rfl (fun u w3 hC hd Q K hK => by (go_step; exact hK _ _ rfl ((Below.refl _ _).alloc (Nat.le_refl _) _) ⟨_, rfl, hC.size, Box4.new _ _ _ _ _ _⟩)), ⟨rfl, fun m u w3 hm hC hF Q K hK => by (dsimp only at hK ⊢; obtain ⟨B, hu, hB, hbx⟩ := hF 15 (by decide); rw [hu] at hK ⊢; have hkeep := hu; clear hu; obtain ⟨pa, pb, pc, pd, hu⟩ := hF 14 (by decide); rw [hu] at hK ⊢; clear hu; obtain ⟨zl, z0, z1, z2, z3, zf⟩ := id hbx;  go_step; exact hK _ _ rfl (hC.trans (((((Below.refl _ _).setCell (by simp only; omega) _).setCell (by simp only; omega) _).setCell (by simp only; omega) _).setCell (by simp only; omega) _)) (fun j hj e => by subst e; exact ⟨B, pa, pb, pc, pd, hkeep, hbx.all pa pb pc pd⟩))⟩⟩); intro u w9 hD hG
          obtain ⟨B, pa, pb, pc, pd, hu15, hbx⟩ := hG 15 (by decide) rfl
          rw [hu15]
          have hw9 := hw3.trans (hD.mono hw3.size)
          have hz9 := hD.size
          have HSV := Lib.hid (hsv.below hD)
          have HTV := Lib.hid (htv.below hD)
          have HT := Lib.hid (ht3.below hD)
          replace c0 := (hD.cell (p := ⟨b, o + k * 2, none⟩) hbl).trans c0
          replace c1 := (hD.cell (p := ⟨b, o + k * 2 + 1, none⟩) hbl).trans c1
          replace d0 := (hD.cell (p := ⟨b, o + (k + 1) * 2, none⟩) hbl).trans d0
          replace d1 := (hD.cell (p := ⟨b, o + (k + 1) * 2 + 1, none⟩) hbl).trans d1
          replace hbl := Nat.lt_of_lt_of_le hbl hz9
          obtain ⟨zl, z0, z1, z2, z3, zf⟩ := id hbx
          have HFV := Lib.hid (And.intro (fvalid_at hfv hf) (fvalid_at hfv hg))
          have HR := Lib.hid hr
          have HFG := Lib.hid (And.intro hf hg)
          clear hsv htv ht3 hD hs3 hs2 hbx hG hu15 zf hr hf hg
          cases r
          · go_wp2_with fail
            refine wp_region_over (by kernel_rfl) (by kernel_rfl) (fun ov => ?_); have ov0 := fun x => ov x (b) (by (try simp) <;> omega); have ov1 := fun x => ov x (B) (by (try simp) <;> omega); clear ov; (iterate 9 (iterate 8 (try go_big_quiet_step (first | fail)))); refine wpQuiet_nil ?_; intro wa hw9; have hb_wa := below_over hw9; clear hw9 ov0 ov1
            have hwa := hw9.trans (hb_wa.mono hw9.size)
            go_wp2
            go_ret
            exact ⟨rfl, hwa⟩
          · obtain ⟨q1, hq1⟩ : ∃ q1, (bvalid f.box && Pk.ok ⟨pa, pb, pc, pd⟩ && bhas f.box ⟨pa, pb, pc, pd⟩) = q1 := ⟨_, rfl⟩
            cases q1
            · go_wp2_with fail
              refine wp_region_over (by kernel_rfl) (by kernel_rfl) (fun ov => ?_); have ov0 := fun x => ov x (b) (by (try simp) <;> omega); have ov1 := fun x => ov x (B) (by (try simp) <;> omega); clear ov; (iterate 9 (iterate 8 (try go_big_quiet_step (first | (go_at_call 38; with_reducible exact callsOver (implBH_b (HSV.out.below (over_below _ _)) (HT.out.below (over_below _ _)) hq1)))))); refine wpQuiet_nil ?_; intro wa hw9; have hb_wa := below_over hw9; clear hw9 ov0 ov1
              have hwa := hw9.trans (hb_wa.mono hw9.size)
              go_wp2
              go_ret
              exact ⟨rfl, hwa⟩
            · obtain ⟨q2, hq2⟩ : ∃ q2, (bvalid g.box && Pk.ok ⟨pa, pb, pc, pd⟩ && bhas g.box ⟨pa, pb, pc, pd⟩) = q2 := ⟨_, rfl⟩
              cases q2
              · go_wp2_with fail
                refine wp_region_over (by kernel_rfl) (by kernel_rfl) (fun ov => ?_); have ov0 := fun x => ov x (b) (by (try simp) <;> omega); have ov1 := fun x => ov x (B) (by (try simp) <;> omega); clear ov; (iterate 9 (iterate 8 (try go_big_quiet_step (first | (go_at_call 38; with_reducible exact callsOver (implBH_b (HSV.out.below (over_below _ _)) (HT.out.below (over_below _ _)) hq1)) | (go_at_call 38; with_reducible exact callsOver (implBH_b (HTV.out.below (over_below _ _)) (HT.out.below (over_below _ _)) hq2)))))); refine wpQuiet_nil ?_; intro wa hw9; have hb_wa := below_over hw9; clear hw9 ov0 ov1
                have hwa := hw9.trans (hb_wa.mono hw9.size)
                go_wp2
                go_ret
                exact ⟨rfl, hwa⟩
              · have hacc : g.acc = f.acc := by
                  have h1 := hq1; have h2 := hq2
                  simp only [Bool.and_eq_true] at h1 h2
                  have ht := HR.out
                  unfold cansw at ht
                  simp only [Bool.and_eq_true, Bool.not_eq_true'] at ht
                  have ht2 := ht.2
                  rw [Int.toNat_natCast, tiedAt_of HFG.out.1 HFG.out.2] at ht2
                  exact (tied_no (bvalid_four HFV.out.1).1 (bvalid_four HFV.out.2).1 ht2 _ h1.2 h2.2).symm
                rw [hacc] at d1
                generalize f.acc = fa at *
                have hpp : (fa == fa) = true := by cases fa <;> rfl
                go_wp2_with fail
                refine wp_region_over (by kernel_rfl) (by kernel_rfl) (fun ov => ?_); have ov0 := fun x => ov x (b) (by (try simp) <;> omega); have ov1 := fun x => ov x (B) (by (try simp) <;> omega); clear ov; (iterate 9 (iterate 8 (try go_big_quiet_step (first | (go_at_call 38; with_reducible exact callsOver (implBH_b (HSV.out.below (over_below _ _)) (HT.out.below (over_below _ _)) hq1)) | (go_at_call 38; with_reducible exact callsOver (implBH_b (HTV.out.below (over_below _ _)) (HT.out.below (over_below _ _)) hq2)))))); refine wpQuiet_nil ?_; intro wa hw9; have hb_wa := below_over hw9; clear hw9 ov0 ov1
                have hwa := hw9.trans (hb_wa.mono hw9.size)
                go_wp2
                go_ret
                exact ⟨rfl, hwa⟩
        · have hrf : r = false := by
            cases r
            · rfl
            · obtain ⟨_, q1, q2⟩ := cansw_in hr
              exact absurd ⟨q1, by omega⟩ hin
          subst hrf
          generalize hmm : fs.length = m at *
          by_cases hnn : n < 0
          · go_wp2_with fail
            refine (specFV_b hs2 hfv).mono ?_
            rintro e w3 ⟨rfl, hb3⟩
            have hw3 := hw2.trans (hb3.mono hw2.size)
            go_wp2_with fail
            refine (alive_any _).mono ?_
            rintro e w4 ⟨rfl, hb4⟩
            have hw4 := hw3.trans (hb4.mono hw3.size)
            go_wp2
            go_ret
            exact ⟨rfl, hw4⟩
          · have hn2 : (m : Int) ≤ n + 1 := by omega
            go_wp2_with fail
            refine (specFV_b hs2 hfv).mono ?_
            rintro e w3 ⟨rfl, hb3⟩
            have hw3 := hw2.trans (hb3.mono hw2.size)
            go_wp2_with fail
            refine (alive_any _).mono ?_
            rintro e w4 ⟨rfl, hb4⟩
            have hw4 := hw3.trans (hb4.mono hw3.size)
            go_wp2
            go_ret
            exact ⟨rfl, hw4⟩
end Go.Proofs.YtkcnbkkgpampaaaDoor
