/- The law FnDropDead: the walk. -/
import Derived.Test.YtojafgooobpoiaaDoorDrF
import Derived.Test.YtojafgooobpoiaaDoorDrS
import Derived.Test.YtojafgooobpoiaaDoorDxBT
import Derived.Test.YtojafgooobpoiaaDoorDxAJ
import Derived.Test.YtojafgooobpoiaaDoorRgH
namespace Go.Proofs.YtojafgooobpoiaaDoor
open Go.RowKit
set_option maxHeartbeats 4000000 in
set_option maxRecDepth 100000 in
theorem law_FnDropDead (bs bs2 : List Int) (v v2 : Value) (w : World) (h : CodeAt w v bs) (h2 : CodeAt w v2 bs2) (ht : Tab w) :
    Calls Tryd.prog 3 #[v, v2] w fun e w' => e = .returned (.bool true) ∧ Below w.heap.size w w' := by
  obtain ⟨a, cap, rfl, l1, l2, -⟩ := code_cells h
  obtain ⟨a2, cap2, rfl, m1, m2, -⟩ := code_cells h2
  unfold maxLen at l2 m2
  by_cases hl : 1048576 < bs.length
  · go_enter Tryd.func3, Tryd.ntmps3
    go_wp2
    go_ret
    exact ⟨rfl, by (repeat' (first | with_reducible exact Below.refl _ _ | with_reducible assumption | with_reducible refine Below.setCell ?_ ?_ _ | with_reducible refine Below.alloc ?_ ?_ _ | with_reducible refine Below.drew ?_ | with_reducible refine belDrewN ?_ _ | with_reducible refine Below.trans ?_ (Below.mono (by assumption) ?_) | omega | (simp; omega) | (simp; done)))⟩
  by_cases hl2 : 1048576 < bs2.length
  · go_enter Tryd.func3, Tryd.ntmps3
    go_wp2
    go_ret
    exact ⟨rfl, by (repeat' (first | with_reducible exact Below.refl _ _ | with_reducible assumption | with_reducible refine Below.setCell ?_ ?_ _ | with_reducible refine Below.alloc ?_ ?_ _ | with_reducible refine Below.drew ?_ | with_reducible refine belDrewN ?_ _ | with_reducible refine Below.trans ?_ (Below.mono (by assumption) ?_) | omega | (simp; omega) | (simp; done)))⟩
  have hsd : bs2.length ≤ 1048576 := by omega
  generalize bs2.length = sd at *
  go_enter Tryd.func3, Tryd.ntmps3
  go_wp2_with fail
  refine (drawDD_any _ _ _ h).mono ?_
  rintro e w1 ⟨v0, fs, rfl, ho, hlen, hok, hb_w1⟩
  have hw_w1 := hb_w1
  have HS := Lib.hid (ho.fts.mono (Nat.zero_le _))
  have HT := Lib.hid (ht.below hb_w1)
  have HOK := Lib.hid hok
  have HFN := Lib.hid (drawn_ftN hlen hok)
  clear hb_w1 ho hok h
  obtain ⟨sa, sc, rfl, hlc_sa, hcm_sa⟩ := HS.out.form
  unfold maxLen at hcm_sa
  obtain ⟨R, hR⟩ : ∃ R, dropd fs = R := ⟨_, rfl⟩
  have HR := Lib.hid hR
  clear hR
  go_wp2_with fail
  refine (implDropDead_e HS.out HT.out HR.out).mono ?_
  rintro e w2 ⟨v2, rfl, ho, hb_w2⟩
  have hw_w2 := hw_w1.trans (hb_w2.mono hw_w1.size)
  clear hw_w1
  replace HS := Lib.hid (HS.out.below hb_w2)
  replace HT := Lib.hid (HT.out.below hb_w2)
  have HX := Lib.hid (ho.fts)
  clear hb_w2 ho
  obtain ⟨xa, xc, rfl, hlc_xa, hcm_xa⟩ := HX.out.form
  unfold maxLen at hcm_xa
  go_wp2_with fail
  refine (specDropDead_e HS.out HFN.out HR.out).mono ?_
  rintro e w3 ⟨v3, rfl, ho, hb_w3⟩
  have hw_w3 := hw_w2.trans (hb_w3.mono hw_w2.size)
  clear hw_w2
  replace HS := Lib.hid (HS.out.below hb_w3)
  replace HT := Lib.hid (HT.out.below hb_w3)
  replace HX := Lib.hid (HX.out.below hb_w3)
  have HY := Lib.hid (ho)
  clear hb_w3 ho
  obtain ⟨ya, yc, rfl, hlc_ya, hcm_ya⟩ := HY.out.form
  unfold maxLen at hcm_ya
  go_wp2_with fail
  refine (sameFlats_e HX.out HY.out).mono ?_
  rintro e w4 ⟨rfl, hb_w4⟩
  have hw_w4 := hw_w3.trans (hb_w4.mono hw_w3.size)
  clear hw_w3
  replace HS := Lib.hid (HS.out.below hb_w4)
  replace HT := Lib.hid (HT.out.below hb_w4)
  replace HX := Lib.hid (HX.out.below hb_w4)
  replace HY := Lib.hid (HY.out.below hb_w4)
  clear hb_w4 
  clear HY
  cases hv : fvalid fs
  · obtain rfl : R = [] := by rw [← HR.out, dropd, hv]; rfl
    go_wp2_with fail
    refine (specFV_b HS.out hv).mono ?_
    rintro e w5 ⟨rfl, hb_w5⟩
    have hw_w5 := hw_w4.trans (hb_w5.mono hw_w4.size)
    clear hw_w4
    replace HS := Lib.hid (HS.out.below hb_w5)
    replace HT := Lib.hid (HT.out.below hb_w5)
    replace HX := Lib.hid (HX.out.below hb_w5)
    clear hb_w5 
    go_wp2_with fail
    refine (alive_any _).mono ?_
    rintro e w6 ⟨rfl, hb_w6⟩
    have hw_w6 := hw_w5.trans (hb_w6.mono hw_w5.size)
    clear hw_w5
    replace HS := Lib.hid (HS.out.below hb_w6)
    replace HT := Lib.hid (HT.out.below hb_w6)
    replace HX := Lib.hid (HX.out.below hb_w6)
    clear hb_w6 
    go_wp2
    go_ret
    exact ⟨rfl, hw_w6⟩
  · go_wp2_with fail
    refine (specFV_b HS.out hv).mono ?_
    rintro e w7 ⟨rfl, hb_w7⟩
    have hw_w7 := hw_w4.trans (hb_w7.mono hw_w4.size)
    clear hw_w4
    replace HS := Lib.hid (HS.out.below hb_w7)
    replace HT := Lib.hid (HT.out.below hb_w7)
    replace HX := Lib.hid (HX.out.below hb_w7)
    clear hb_w7 
    obtain ⟨rb, hrb⟩ : ∃ rb : Bool, (((sd : Int) % 2) == 0) = rb := ⟨_, rfl⟩
    have hpb : ∀ (k' : Nat) b', (fbx fs)[k']? = some b' → b'.length ≤ 100 ∧ ∀ (j : Nat) xs, b'[j]? = some xs → xs.length ≤ 1000 := fun k' b' hb' => by
      rw [fbx, hv] at hb'
      simp only [if_true, fboxes, List.getElem?_map, Option.map_eq_some_iff] at hb'
      obtain ⟨f, hf, rfl⟩ := hb'
      exact ⟨by have := (HOK.out k' f hf).1; omega, fun j xs hx => by have := (HOK.out k' f hf).2 j xs hx; omega⟩
    have hpl : (fbx fs).length ≤ 100 := by
      rw [fbx, hv]; simp [fboxes]; omega
    have HPB := Lib.hid hpb
    have HPL := Lib.hid hpl
    clear hpb hpl
    go_wp2_with fail
    refine (implFB_any fs _ _ HS.out HT.out).mono ?_
    rintro e w8 ⟨v4, rfl, hx4, hb_w8⟩
    have hw_w8 := hw_w7.trans (hb_w8.mono hw_w7.size)
    clear hw_w7
    replace HS := Lib.hid (HS.out.below hb_w8)
    replace HT := Lib.hid (HT.out.below hb_w8)
    replace HX := Lib.hid (HX.out.below hb_w8)
    have HFB := Lib.hid (hx4)
    clear hb_w8 hx4
    go_wp2_with fail
    refine (probe_any (fbx fs) v4 sd _ HFB.out hsd HPL.out HPB.out).mono ?_
    rintro e w9 ⟨⟨pa, pb, pc, pd⟩, rfl, hb_w9⟩
    have hw_w9 := hw_w8.trans (hb_w9.mono hw_w8.size)
    clear hw_w8
    replace HS := Lib.hid (HS.out.below hb_w9)
    replace HT := Lib.hid (HT.out.below hb_w9)
    replace HX := Lib.hid (HX.out.below hb_w9)
    replace HFB := Lib.hid (HFB.out.below hb_w9)
    clear hb_w9 
    clear HFB
    obtain ⟨W, hW⟩ : ∃ W, w9.alloc (.cells #[.int .i64 pa, .int .i64 pb, .int .i64 pc, .int .i64 pd] 30) = W := ⟨_, rfl⟩
    have hal : Below w9.heap.size w9 W := by rw [← hW]; exact (Below.refl _ _).alloc (Nat.le_refl _) _
    have hbx : Box4 W w9.heap.size pa pb pc pd := by rw [← hW]; exact Box4.new w9 pa pb pc pd _
    have hw_W := hw_w9.trans (hal.mono hw_w9.size)
    clear hw_w9
    replace HS := Lib.hid (HS.out.below hal)
    replace HT := Lib.hid (HT.out.below hal)
    replace HX := Lib.hid (HX.out.below hal)
    have HP := Lib.hid (hbx)
    clear hal hbx
    obtain ⟨jq, hj1⟩ : ∃ jq, jfl R rb ⟨pa, pb, pc, pd⟩ = jq := ⟨_, rfl⟩
    have HJ2 := Lib.hid (show jfl fs rb ⟨pa, pb, pc, pd⟩ = jq by rw [← hj1, ← HR.out, dropd_jfl hv])
    have HJ1 := Lib.hid hj1
    have hln := dropd_len hv
    rw [HR.out] at hln
    obtain ⟨D, hD⟩ : ∃ D, deads fs = D := ⟨_, rfl⟩
    have HD := Lib.hid hD
    rw [hD] at hln
    have hdl : D.length ≤ fs.length := by rw [← hD, deads, hv]; exact deadl_len fs fs.length
    clear hj1 hD HPB HPL
    obtain ⟨n, hn⟩ : ∃ n, fs.length = n := ⟨_, rfl⟩
    obtain ⟨m, hm⟩ : ∃ m, R.length = m := ⟨_, rfl⟩
    obtain ⟨dn, hdn⟩ : ∃ dn, D.length = dn := ⟨_, rfl⟩
    have HDN := Lib.hid hdn
    rw [hn] at HS hlc_sa hln hdl hlen ⊢
    rw [hm] at HX hlc_xa hln ⊢
    rw [hdn] at hln hdl
    have hwrp : IntKind.i64.wrap ((n : Int) - (dn : Int)) = (n : Int) - (dn : Int) := IntWalk.i64_in _ (by omega)
    have hmn : (n : Int) - (dn : Int) = (m : Int) := by omega
    clear hn hm hdn hln
    cases jq
    · obtain ⟨zl, z0, z1, z2, z3, zf⟩ := HP.out
      go_wp2_with fail
      (refine wp_region_belG (W := W) [BIs (.slice xa m xc), BIs (.bool rb), BIs (.agg #[.int .i64 pa, .int .i64 pb, .int .i64 pc, .int .i64 pd]), (BIs (.bool false)), BIs (.slice sa n sc), BIs (.bool rb), BIs (.agg #[.int .i64 pa, .int .i64 pb, .int .i64 pc, .int .i64 pd]), (BIs (.bool false)), BIs (.bool true), BIs (.bool true), BIs (.slice xa m xc), BIs (.int .i64 (m : Int)), BIs (.slice sa n sc), BIs (.int .i64 (n : Int)), BIs (.slice sa n sc), (fun w v => Ins w v D), (BIs (.int .i64 (dn : Int))), (BIs (.int .i64 (m : Int))), BIs (.bool true), BIs (.bool true), BIs (.bool true)] (by kernel_rfl) (fun u => by simp only [frU, Act.put, List.setIfInBounds_toArray, List.set_cons_succ, List.set_cons_zero, Nat.zero_add, Nat.reduceAdd]; exact rfl) (by kernel_rfl) ⟨bst_is _, bst_is _, bst_is _, (bst_is _), bst_is _, bst_is _, bst_is _, (bst_is _), bst_is _, bst_is _, bst_is _, bst_is _, bst_is _, bst_is _, bst_is _, (fun _ _ _ hb h => h.below hb), (bst_is _), (bst_is _), bst_is _, bst_is _, bst_is _, trivial⟩ ?_ ?_; exact ⟨stG (fun u w3 hC hd => ⟨rfl, fun Q K hK => by (go_step; exact hK _ _ rfl (Below.refl _ _) rfl)⟩), stG (fun u w3 hC hd => ⟨rfl, fun Q K hK => by (go_step; exact hK _ _ rfl (Below.refl _ _) rfl)⟩), stG (fun u w3 hC hd => ⟨rfl, fun Q K hK => by (have e0 := (hC.cell (p := ⟨w9.heap.size, 0, none⟩) zl).trans z0; have e1 := (hC.cell (p := ⟨w9.heap.size, 1, none⟩) zl).trans z1; have e2 := (hC.cell (p := ⟨w9.heap.size, 2, none⟩) zl).trans z2; have e3 := (hC.cell (p := ⟨w9.heap.size, 3, none⟩) zl).trans z3; go_step; exact hK _ _ rfl (Below.refl _ _) rfl)⟩), stG (fun u w3 hC hd => ⟨rfl, fun Q K hK => by (have hu := bis (w := w3) (hd 0 rfl); rw [hu] at hK ⊢; clear hu; have hu := bis (w := w3) (hd 1 rfl); rw [hu] at hK ⊢; clear hu; have hu := bis (w := w3) (hd 2 rfl); rw [hu] at hK ⊢; clear hu; go_step; refine (implJF_b (HX.out.below hC) (HT.out.below hC) HJ1.out).mono ?_; rintro e w4 ⟨rfl, hb4⟩; exact hK _ _ rfl hb4 rfl)⟩), stG (fun u w3 hC hd => ⟨rfl, fun Q K hK => by (go_step; exact hK _ _ rfl (Below.refl _ _) rfl)⟩), stG (fun u w3 hC hd => ⟨rfl, fun Q K hK => by (go_step; exact hK _ _ rfl (Below.refl _ _) rfl)⟩), stG (fun u w3 hC hd => ⟨rfl, fun Q K hK => by (have e0 := (hC.cell (p := ⟨w9.heap.size, 0, none⟩) zl).trans z0; have e1 := (hC.cell (p := ⟨w9.heap.size, 1, none⟩) zl).trans z1; have e2 := (hC.cell (p := ⟨w9.heap.size, 2, none⟩) zl).trans z2; have e3 := (hC.cell (p := ⟨w9.heap.size, 3, none⟩) zl).trans z3; go_step; exact hK _ _ rfl (Below.refl _ _) rfl)⟩), stG (fun u w3 hC hd => ⟨rfl, fun Q K hK => by (have hu := bis (w := w3) (hd 4 rfl); rw [hu] at hK ⊢; clear hu; have hu := bis (w := w3) (hd 5 rfl); rw [hu] at hK ⊢; clear hu; have hu := bis (w := w3) (hd 6 rfl); rw [hu] at hK ⊢; clear hu; go_step; refine (implJF_b (HS.out.below hC) (HT.out.below hC) HJ2.out).mono ?_; rintro e w4 ⟨rfl, hb4⟩; exact hK _ _ rfl hb4 rfl)⟩), stG (fun u w3 hC hd => ⟨rfl, fun Q K hK => by (have hu := bis (w := w3) (hd 3 rfl); rw [hu] at hK ⊢; clear hu; have hu := bis (w := w3) (hd 7 rfl); rw [hu] at hK ⊢; clear hu; go_step; exact hK _ _ rfl (Below.refl _ _) rfl)⟩), stG (fun u w3 hC hd => ⟨rfl, fun Q K hK => by (have hu := bis (w := w3) (hd 8 rfl); rw [hu] at hK ⊢; clear hu; go_step; exact hK _ _ rfl (Below.refl _ _) rfl)⟩), stG (fun u w3 hC hd => ⟨by (have hu := bis (w := w3) (hd 9 rfl); rw [hu]; rfl), fun Q K hK => by (go_step; exact hK _ _ rfl (Below.refl _ _) rfl)⟩), stG (fun u w3 hC hd => ⟨by (have hu := bis (w := w3) (hd 9 rfl); rw [hu]; rfl), fun Q K hK => by (have hu := bis (w := w3) (hd 10 rfl); rw [hu] at hK ⊢; clear hu; go_step; exact hK _ _ rfl (Below.refl _ _) rfl)⟩), stG (fun u w3 hC hd => ⟨by (have hu := bis (w := w3) (hd 9 rfl); rw [hu]; rfl), fun Q K hK => by (go_step; exact hK _ _ rfl (Below.refl _ _) rfl)⟩), stG (fun u w3 hC hd => ⟨by (have hu := bis (w := w3) (hd 9 rfl); rw [hu]; rfl), fun Q K hK => by (have hu := bis (w := w3) (hd 12 rfl); rw [hu] at hK ⊢; clear hu; go_step; exact hK _ _ rfl (Below.refl _ _) rfl)⟩), stG (fun u w3 hC hd => ⟨by (have hu := bis (w := w3) (hd 9 rfl); rw [hu]; rfl), fun Q K hK => by (go_step; exact hK _ _ rfl (Below.refl _ _) rfl)⟩), stG (fun u w3 hC hd => ⟨by (have hu := bis (w := w3) (hd 9 rfl); rw [hu]; rfl), fun Q K hK => by (have hu := bis (w := w3) (hd 14 rfl); rw [hu] at hK ⊢; clear hu; go_step; refine (implDeadFlats_e (HS.out.below hC) (HT.out.below hC) HD.out).mono ?_; rintro e w4 ⟨z4, rfl, ho4, hb4⟩; exact hK _ _ rfl hb4 ho4.rd)⟩), stG (fun u w3 hC hd => ⟨by (have hu := bis (w := w3) (hd 9 rfl); rw [hu]; rfl), fun Q K hK => by (have hz9 := hd 15 rfl; generalize u 15 = z9 at *; (obtain ⟨za, zc, rfl, -, -⟩ := Ins.formI hz9; rw [HDN.out] at hK ⊢; go_step; exact hK _ _ rfl (Below.refl _ _) rfl))⟩), stG (fun u w3 hC hd => ⟨by (have hu := bis (w := w3) (hd 9 rfl); rw [hu]; rfl), fun Q K hK => by (have hu := bis (w := w3) (hd 13 rfl); rw [hu] at hK ⊢; clear hu; have hu := bis (w := w3) (hd 16 rfl); rw [hu] at hK ⊢; clear hu; (go_step; exact hK _ _ rfl (Below.refl _ _) (by first | rfl | (rw [hwrp, hmn] at *; rfl) | exact congrArg (Value.int .i64) hmn | exact congrArg (Value.int .i64) (hwrp.trans hmn))))⟩), stG (fun u w3 hC hd => ⟨by (have hu := bis (w := w3) (hd 9 rfl); rw [hu]; rfl), fun Q K hK => by (have hu := bis (w := w3) (hd 11 rfl); rw [hu] at hK ⊢; clear hu; have hu := bis (w := w3) (hd 17 rfl); rw [hu] at hK ⊢; clear hu; go_step; exact hK _ _ rfl (Below.refl _ _) rfl)⟩), stG (fun u w3 hC hd => ⟨rfl, fun Q K hK => by (have hu := bis (w := w3) (hd 9 rfl); rw [hu] at hK ⊢; clear hu; have hu := bis (w := w3) (hd 18 rfl); rw [hu] at hK ⊢; clear hu; go_step; exact hK _ _ rfl (Below.refl _ _) rfl)⟩), stG (fun u w3 hC hd => ⟨rfl, fun Q K hK => by (have hu := bis (w := w3) (hd 19 rfl); rw [hu] at hK ⊢; clear hu; go_step; exact hK _ _ rfl (Below.refl _ _) rfl)⟩), trivial⟩); intro u wz hb_wz hF; rw [bis (w := wz) (hF 0 (by decide))]; rw [bis (w := wz) (hF 1 (by decide))]; rw [bis (w := wz) (hF 2 (by decide))]; generalize u 3 = vx3 at *; rw [bis (w := wz) (hF 4 (by decide))]; rw [bis (w := wz) (hF 5 (by decide))]; rw [bis (w := wz) (hF 6 (by decide))]; generalize u 7 = vx7 at *; rw [bis (w := wz) (hF 8 (by decide))]; rw [bis (w := wz) (hF 9 (by decide))]; rw [bis (w := wz) (hF 10 (by decide))]; rw [bis (w := wz) (hF 11 (by decide))]; rw [bis (w := wz) (hF 12 (by decide))]; rw [bis (w := wz) (hF 13 (by decide))]; rw [bis (w := wz) (hF 14 (by decide))]; generalize u 15 = vx15 at *; generalize u 16 = vx16 at *; generalize u 17 = vx17 at *; rw [bis (w := wz) (hF 18 (by decide))]; rw [bis (w := wz) (hF 19 (by decide))]; rw [bis (w := wz) (hF 20 (by decide))]; clear hF
      have hw_wz := hw_W.trans (hb_wz.mono hw_W.size)
      clear hw_W
      replace HS := Lib.hid (HS.out.below hb_wz)
      replace HT := Lib.hid (HT.out.below hb_wz)
      replace HX := Lib.hid (HX.out.below hb_wz)
      replace HP := Lib.hid (Box4.bel HP.out hb_wz)
      go_wp2
      go_ret
      exact ⟨rfl, hw_wz⟩
    · obtain ⟨zl, z0, z1, z2, z3, zf⟩ := HP.out
      go_wp2_with fail
      (refine wp_region_belG (W := W) [BIs (.slice xa m xc), BIs (.bool rb), BIs (.agg #[.int .i64 pa, .int .i64 pb, .int .i64 pc, .int .i64 pd]), (BIs (.bool true)), BIs (.slice sa n sc), BIs (.bool rb), BIs (.agg #[.int .i64 pa, .int .i64 pb, .int .i64 pc, .int .i64 pd]), (BIs (.bool true)), BIs (.bool true), BIs (.bool true), BIs (.slice xa m xc), BIs (.int .i64 (m : Int)), BIs (.slice sa n sc), BIs (.int .i64 (n : Int)), BIs (.slice sa n sc), (fun w v => Ins w v D), (BIs (.int .i64 (dn : Int))), (BIs (.int .i64 (m : Int))), BIs (.bool true), BIs (.bool true), BIs (.bool true)] (by kernel_rfl) (fun u => by simp only [frU, Act.put, List.setIfInBounds_toArray, List.set_cons_succ, List.set_cons_zero, Nat.zero_add, Nat.reduceAdd]; exact rfl) (by kernel_rfl) ⟨bst_is _, bst_is _, bst_is _, (bst_is _), bst_is _, bst_is _, bst_is _, (bst_is _), bst_is _, bst_is _, bst_is _, bst_is _, bst_is _, bst_is _, bst_is _, (fun _ _ _ hb h => h.below hb), (bst_is _), (bst_is _), bst_is _, bst_is _, bst_is _, trivial⟩ ?_ ?_; exact ⟨stG (fun u w3 hC hd => ⟨rfl, fun Q K hK => by (go_step; exact hK _ _ rfl (Below.refl _ _) rfl)⟩), stG (fun u w3 hC hd => ⟨rfl, fun Q K hK => by (go_step; exact hK _ _ rfl (Below.refl _ _) rfl)⟩), stG (fun u w3 hC hd => ⟨rfl, fun Q K hK => by (have e0 := (hC.cell (p := ⟨w9.heap.size, 0, none⟩) zl).trans z0; have e1 := (hC.cell (p := ⟨w9.heap.size, 1, none⟩) zl).trans z1; have e2 := (hC.cell (p := ⟨w9.heap.size, 2, none⟩) zl).trans z2; have e3 := (hC.cell (p := ⟨w9.heap.size, 3, none⟩) zl).trans z3; go_step; exact hK _ _ rfl (Below.refl _ _) rfl)⟩), stG (fun u w3 hC hd => ⟨rfl, fun Q K hK => by (have hu := bis (w := w3) (hd 0 rfl); rw [hu] at hK ⊢; clear hu; have hu := bis (w := w3) (hd 1 rfl); rw [hu] at hK ⊢; clear hu; have hu := bis (w := w3) (hd 2 rfl); rw [hu] at hK ⊢; clear hu; go_step; refine (implJF_b (HX.out.below hC) (HT.out.below hC) HJ1.out).mono ?_; rintro e w4 ⟨rfl, hb4⟩; exact hK _ _ rfl hb4 rfl)⟩), stG (fun u w3 hC hd => ⟨rfl, fun Q K hK => by (go_step; exact hK _ _ rfl (Below.refl _ _) rfl)⟩), stG (fun u w3 hC hd => ⟨rfl, fun Q K hK => by (go_step; exact hK _ _ rfl (Below.refl _ _) rfl)⟩), stG (fun u w3 hC hd => ⟨rfl, fun Q K hK => by (have e0 := (hC.cell (p := ⟨w9.heap.size, 0, none⟩) zl).trans z0; have e1 := (hC.cell (p := ⟨w9.heap.size, 1, none⟩) zl).trans z1; have e2 := (hC.cell (p := ⟨w9.heap.size, 2, none⟩) zl).trans z2; have e3 := (hC.cell (p := ⟨w9.heap.size, 3, none⟩) zl).trans z3; go_step; exact hK _ _ rfl (Below.refl _ _) rfl)⟩), stG (fun u w3 hC hd => ⟨rfl, fun Q K hK => by (have hu := bis (w := w3) (hd 4 rfl); rw [hu] at hK ⊢; clear hu; have hu := bis (w := w3) (hd 5 rfl); rw [hu] at hK ⊢; clear hu; have hu := bis (w := w3) (hd 6 rfl); rw [hu] at hK ⊢; clear hu; go_step; refine (implJF_b (HS.out.below hC) (HT.out.below hC) HJ2.out).mono ?_; rintro e w4 ⟨rfl, hb4⟩; exact hK _ _ rfl hb4 rfl)⟩), stG (fun u w3 hC hd => ⟨rfl, fun Q K hK => by (have hu := bis (w := w3) (hd 3 rfl); rw [hu] at hK ⊢; clear hu; have hu := bis (w := w3) (hd 7 rfl); rw [hu] at hK ⊢; clear hu; go_step; exact hK _ _ rfl (Below.refl _ _) rfl)⟩), stG (fun u w3 hC hd => ⟨rfl, fun Q K hK => by (have hu := bis (w := w3) (hd 8 rfl); rw [hu] at hK ⊢; clear hu; go_step; exact hK _ _ rfl (Below.refl _ _) rfl)⟩), stG (fun u w3 hC hd => ⟨by (have hu := bis (w := w3) (hd 9 rfl); rw [hu]; rfl), fun Q K hK => by (go_step; exact hK _ _ rfl (Below.refl _ _) rfl)⟩), stG (fun u w3 hC hd => ⟨by (have hu := bis (w := w3) (hd 9 rfl); rw [hu]; rfl), fun Q K hK => by (have hu := bis (w := w3) (hd 10 rfl); rw [hu] at hK ⊢; clear hu; go_step; exact hK _ _ rfl (Below.refl _ _) rfl)⟩), stG (fun u w3 hC hd => ⟨by (have hu := bis (w := w3) (hd 9 rfl); rw [hu]; rfl), fun Q K hK => by (go_step; exact hK _ _ rfl (Below.refl _ _) rfl)⟩), stG (fun u w3 hC hd => ⟨by (have hu := bis (w := w3) (hd 9 rfl); rw [hu]; rfl), fun Q K hK => by (have hu := bis (w := w3) (hd 12 rfl); rw [hu] at hK ⊢; clear hu; go_step; exact hK _ _ rfl (Below.refl _ _) rfl)⟩), stG (fun u w3 hC hd => ⟨by (have hu := bis (w := w3) (hd 9 rfl); rw [hu]; rfl), fun Q K hK => by (go_step; exact hK _ _ rfl (Below.refl _ _) rfl)⟩), stG (fun u w3 hC hd => ⟨by (have hu := bis (w := w3) (hd 9 rfl); rw [hu]; rfl), fun Q K hK => by (have hu := bis (w := w3) (hd 14 rfl); rw [hu] at hK ⊢; clear hu; go_step; refine (implDeadFlats_e (HS.out.below hC) (HT.out.below hC) HD.out).mono ?_; rintro e w4 ⟨z4, rfl, ho4, hb4⟩; exact hK _ _ rfl hb4 ho4.rd)⟩), stG (fun u w3 hC hd => ⟨by (have hu := bis (w := w3) (hd 9 rfl); rw [hu]; rfl), fun Q K hK => by (have hz9 := hd 15 rfl; generalize u 15 = z9 at *; (obtain ⟨za, zc, rfl, -, -⟩ := Ins.formI hz9; rw [HDN.out] at hK ⊢; go_step; exact hK _ _ rfl (Below.refl _ _) rfl))⟩), stG (fun u w3 hC hd => ⟨by (have hu := bis (w := w3) (hd 9 rfl); rw [hu]; rfl), fun Q K hK => by (have hu := bis (w := w3) (hd 13 rfl); rw [hu] at hK ⊢; clear hu; have hu := bis (w := w3) (hd 16 rfl); rw [hu] at hK ⊢; clear hu; (go_step; exact hK _ _ rfl (Below.refl _ _) (by first | rfl | (rw [hwrp, hmn] at *; rfl) | exact congrArg (Value.int .i64) hmn | exact congrArg (Value.int .i64) (hwrp.trans hmn))))⟩), stG (fun u w3 hC hd => ⟨by (have hu := bis (w := w3) (hd 9 rfl); rw [hu]; rfl), fun Q K hK => by (have hu := bis (w := w3) (hd 11 rfl); rw [hu] at hK ⊢; clear hu; have hu := bis (w := w3) (hd 17 rfl); rw [hu] at hK ⊢; clear hu; go_step; exact hK _ _ rfl (Below.refl _ _) rfl)⟩), stG (fun u w3 hC hd => ⟨rfl, fun Q K hK => by (have hu := bis (w := w3) (hd 9 rfl); rw [hu] at hK ⊢; clear hu; have hu := bis (w := w3) (hd 18 rfl); rw [hu] at hK ⊢; clear hu; go_step; exact hK _ _ rfl (Below.refl _ _) rfl)⟩), stG (fun u w3 hC hd => ⟨rfl, fun Q K hK => by (have hu := bis (w := w3) (hd 19 rfl); rw [hu] at hK ⊢; clear hu; go_step; exact hK _ _ rfl (Below.refl _ _) rfl)⟩), trivial⟩); intro u wz hb_wz hF; rw [bis (w := wz) (hF 0 (by decide))]; rw [bis (w := wz) (hF 1 (by decide))]; rw [bis (w := wz) (hF 2 (by decide))]; generalize u 3 = vx3 at *; rw [bis (w := wz) (hF 4 (by decide))]; rw [bis (w := wz) (hF 5 (by decide))]; rw [bis (w := wz) (hF 6 (by decide))]; generalize u 7 = vx7 at *; rw [bis (w := wz) (hF 8 (by decide))]; rw [bis (w := wz) (hF 9 (by decide))]; rw [bis (w := wz) (hF 10 (by decide))]; rw [bis (w := wz) (hF 11 (by decide))]; rw [bis (w := wz) (hF 12 (by decide))]; rw [bis (w := wz) (hF 13 (by decide))]; rw [bis (w := wz) (hF 14 (by decide))]; generalize u 15 = vx15 at *; generalize u 16 = vx16 at *; generalize u 17 = vx17 at *; rw [bis (w := wz) (hF 18 (by decide))]; rw [bis (w := wz) (hF 19 (by decide))]; rw [bis (w := wz) (hF 20 (by decide))]; clear hF
      have hw_wz := hw_W.trans (hb_wz.mono hw_W.size)
      clear hw_W
      replace HS := Lib.hid (HS.out.below hb_wz)
      replace HT := Lib.hid (HT.out.below hb_wz)
      replace HX := Lib.hid (HX.out.below hb_wz)
      replace HP := Lib.hid (Box4.bel HP.out hb_wz)
      go_wp2
      go_ret
      exact ⟨rfl, hw_wz⟩
end Go.Proofs.YtojafgooobpoiaaDoor
