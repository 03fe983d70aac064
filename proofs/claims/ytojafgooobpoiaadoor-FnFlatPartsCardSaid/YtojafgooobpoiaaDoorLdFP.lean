/- The law FnFlatParts: the walk. -/
import Derived.Test.YtojafgooobpoiaaDoorDrG
import Derived.Test.YtojafgooobpoiaaDoorPaS
import Derived.Test.YtojafgooobpoiaaDoorPbK
import Derived.Test.YtojafgooobpoiaaDoorDxBT
import Derived.Test.YtojafgooobpoiaaDoorDxAJ
import Derived.Test.YtojafgooobpoiaaDoorRgH
namespace Go.Proofs.YtojafgooobpoiaaDoor
open Go.RowKit
theorem fpart_rv (fs : List Ft) (r a : Bool) : rvalid (fpart fs r a) = true := by
  have h := fpart_good fs r a
  unfold rvalid
  rw [Bool.and_eq_true, decide_eq_true_eq, List.all_eq_true]
  exact ⟨h.2, h.1⟩
theorem fparts_hit {fs X : List Ft} {r a : Bool} {p : Pk} {j : Bool} (hX : fparts fs r = some X) (hp : p.ok = true) (hj : jfl fs r p = j) : (rvalid (fpart fs r a) && p.ok && (fpart fs r a).any (fun z => bhas z p)) = (j == a) := by
  rw [fpart_rv, hp, fpart_yes hX, fparts_has hX hp, hj]
  cases j <;> cases a <;> rfl
set_option maxHeartbeats 4000000 in
set_option maxRecDepth 100000 in
theorem law_FnFlatParts (bs bs2 : List Int) (v v2 : Value) (w : World) (h : CodeAt w v bs) (h2 : CodeAt w v2 bs2) (ht : Tab w) :
    Calls Tryd.prog 5 #[v, v2] w fun e w' => e = .returned (.bool true) ∧ Below w.heap.size w w' := by
  obtain ⟨a, cap, rfl, l1, l2, -⟩ := code_cells h
  obtain ⟨a2, cap2, rfl, m1, m2, -⟩ := code_cells h2
  unfold maxLen at l2 m2
  by_cases hl : 1048576 < bs.length
  · go_enter Tryd.func5, Tryd.ntmps5
    go_wp2
    go_ret
    exact ⟨rfl, by (repeat' (first | with_reducible exact Below.refl _ _ | with_reducible assumption | with_reducible refine Below.setCell ?_ ?_ _ | with_reducible refine Below.alloc ?_ ?_ _ | with_reducible refine Below.drew ?_ | with_reducible refine belDrewN ?_ _ | with_reducible refine Below.trans ?_ (Below.mono (by assumption) ?_) | omega | (simp; omega) | (simp; done)))⟩
  by_cases hl2 : 1048576 < bs2.length
  · go_enter Tryd.func5, Tryd.ntmps5
    go_wp2
    go_ret
    exact ⟨rfl, by (repeat' (first | with_reducible exact Below.refl _ _ | with_reducible assumption | with_reducible refine Below.setCell ?_ ?_ _ | with_reducible refine Below.alloc ?_ ?_ _ | with_reducible refine Below.drew ?_ | with_reducible refine belDrewN ?_ _ | with_reducible refine Below.trans ?_ (Below.mono (by assumption) ?_) | omega | (simp; omega) | (simp; done)))⟩
  have hsd : bs2.length ≤ 1048576 := by omega
  generalize bs2.length = sd at *
  go_enter Tryd.func5, Tryd.ntmps5
  go_wp2_with fail
  refine (drawFP_any _ _ _ h).mono ?_
  rintro e w1 ⟨v0, fs, r, c, rfl, ⟨ho, hlen, hok, hb_w1⟩⟩
  have hw_w1 := hb_w1
  have HS := Lib.hid (ho.fts.mono (Nat.zero_le _))
  have HT := Lib.hid (ht.below hb_w1)
  have HOK := Lib.hid hok
  have HFN := Lib.hid (drawn_ftN hlen hok)
  clear hb_w1 ho hok h
  obtain ⟨sa, sc, rfl, hlc_sa, hcm_sa⟩ := HS.out.form
  unfold maxLen at hcm_sa
  obtain ⟨A, hA⟩ : ∃ A, fpart fs r c = A := ⟨_, rfl⟩
  have HPA := Lib.hid hA
  obtain ⟨q, hq⟩ : ∃ q, (fparts fs r).isSome = q := ⟨_, rfl⟩
  have HQ := Lib.hid hq
  clear hA
  go_wp2_with fail
  refine (implFlatParts_e HS.out HT.out HPA.out HQ.out).mono ?_
  rintro e w2 ⟨v2, rfl, ho, hb_w2⟩
  have hw_w2 := hw_w1.trans (hb_w2.mono hw_w1.size)
  clear hw_w1
  replace HS := Lib.hid (HS.out.below hb_w2)
  replace HT := Lib.hid (HT.out.below hb_w2)
  have HA := Lib.hid (ho.bxs)
  clear hb_w2 ho
  obtain ⟨xa, xc, rfl, hlc_xa, hcm_xa⟩ := HA.out.form
  unfold maxLen at hcm_xa
  go_wp2_with fail
  refine (specFlatParts_e HS.out HFN.out HPA.out HQ.out).mono ?_
  rintro e w3 ⟨v3, rfl, ho, hb_w3⟩
  have hw_w3 := hw_w2.trans (hb_w3.mono hw_w2.size)
  clear hw_w2
  replace HS := Lib.hid (HS.out.below hb_w3)
  replace HT := Lib.hid (HT.out.below hb_w3)
  replace HA := Lib.hid (HA.out.below hb_w3)
  have HB := Lib.hid (ho)
  clear hb_w3 ho
  obtain ⟨ya, yc, rfl, hlc_ya, hcm_ya⟩ := HB.out.form
  unfold maxLen at hcm_ya
  go_wp2_with fail
  refine (sameBoxes_e HA.out HB.out).mono ?_
  rintro e w4 ⟨rfl, hb_w4⟩
  have hw_w4 := hw_w3.trans (hb_w4.mono hw_w3.size)
  clear hw_w3
  replace HS := Lib.hid (HS.out.below hb_w4)
  replace HT := Lib.hid (HT.out.below hb_w4)
  replace HA := Lib.hid (HA.out.below hb_w4)
  replace HB := Lib.hid (HB.out.below hb_w4)
  clear hb_w4 
  clear HB
  cases q
  · obtain rfl : A = [] := by rw [← HPA.out, fpart_no (Option.not_isSome_iff_eq_none.1 (by rw [hq]; simp))]
    go_wp2_with fail
    refine (alive_any _).mono ?_
    rintro e w5 ⟨rfl, hb_w5⟩
    have hw_w5 := hw_w4.trans (hb_w5.mono hw_w4.size)
    clear hw_w4
    replace HS := Lib.hid (HS.out.below hb_w5)
    replace HT := Lib.hid (HT.out.below hb_w5)
    replace HA := Lib.hid (HA.out.below hb_w5)
    clear hb_w5 
    go_wp2
    go_ret
    exact ⟨rfl, hw_w5⟩
  · obtain ⟨X, hX⟩ := Option.isSome_iff_exists.1 hq
    have hv := (fparts_valid hX).1
    obtain ⟨B, hB⟩ : ∃ B, fpart fs r (!c) = B := ⟨_, rfl⟩
    have HPB2 := Lib.hid hB
    have HXX := Lib.hid hX
    clear hB hX hq
    go_wp2_with fail
    refine (implFlatParts_e HS.out HT.out HPB2.out HQ.out).mono ?_
    rintro e w6 ⟨v5, rfl, ho, hb_w6⟩
    have hw_w6 := hw_w4.trans (hb_w6.mono hw_w4.size)
    clear hw_w4
    replace HS := Lib.hid (HS.out.below hb_w6)
    replace HT := Lib.hid (HT.out.below hb_w6)
    replace HA := Lib.hid (HA.out.below hb_w6)
    have HB := Lib.hid (ho.bxs)
    clear hb_w6 ho
    obtain ⟨ba, bc, rfl, hlc_ba, hcm_ba⟩ := HB.out.form
    unfold maxLen at hcm_ba
    have hpb : ∀ (k' : Nat) b', (fbx fs)[k']? = some b' → b'.length ≤ 100 ∧ ∀ (j : Nat) xs, b'[j]? = some xs → xs.length ≤ 1000 := fun k' b' hb' => by
      rw [fbx, hv] at hb'
      simp only [if_true, fboxes, List.getElem?_map, Option.map_eq_some_iff] at hb'
      obtain ⟨f, hf, rfl⟩ := hb'
      exact ⟨by have := (HOK.out k' f hf).1; omega, fun j xs hx => by have := (HOK.out k' f hf).2 j xs hx; omega⟩
    have hpl : (fbx fs).length ≤ 100 := by
      rw [fbx, hv]; simp [fboxes]; omega
    have HPB := Lib.hid hpb
    have HPL := Lib.hid hpl
    clear hpb hpl
    have HVB := Lib.hid (show ∀ (k : Nat) b, (fbx fs)[k]? = some b → bvalid b = true from fun k b hb => by
      rw [fbx, hv] at hb
      simp only [if_true, fboxes, List.getElem?_map, Option.map_eq_some_iff] at hb
      obtain ⟨f, hf, rfl⟩ := hb
      exact fvalid_at hv hf)
    go_wp2_with fail
    refine (implFB_any fs _ _ HS.out HT.out).mono ?_
    rintro e w7 ⟨v4, rfl, hx4, hb_w7⟩
    have hw_w7 := hw_w6.trans (hb_w7.mono hw_w6.size)
    clear hw_w6
    replace HS := Lib.hid (HS.out.below hb_w7)
    replace HT := Lib.hid (HT.out.below hb_w7)
    replace HA := Lib.hid (HA.out.below hb_w7)
    replace HB := Lib.hid (HB.out.below hb_w7)
    have HFB := Lib.hid (hx4)
    clear hb_w7 hx4
    go_wp2_with fail
    refine (probe_ok (fbx fs) v4 sd _ HFB.out hsd HPL.out HPB.out HVB.out).mono ?_
    rintro e w8 ⟨⟨pa, pb, pc, pd⟩, rfl, hpk, hb_w8⟩
    have hw_w8 := hw_w7.trans (hb_w8.mono hw_w7.size)
    clear hw_w7
    replace HS := Lib.hid (HS.out.below hb_w8)
    replace HT := Lib.hid (HT.out.below hb_w8)
    replace HA := Lib.hid (HA.out.below hb_w8)
    replace HB := Lib.hid (HB.out.below hb_w8)
    replace HFB := Lib.hid (HFB.out.below hb_w8)
    clear hb_w8 
    clear HFB
    obtain ⟨W, hW⟩ : ∃ W, w8.alloc (.cells #[.int .i64 pa, .int .i64 pb, .int .i64 pc, .int .i64 pd] 30) = W := ⟨_, rfl⟩
    have hal : Below w8.heap.size w8 W := by rw [← hW]; exact (Below.refl _ _).alloc (Nat.le_refl _) _
    have hbx : Box4 W w8.heap.size pa pb pc pd := by rw [← hW]; exact Box4.new w8 pa pb pc pd _
    have hw_W := hw_w8.trans (hal.mono hw_w8.size)
    clear hw_w8
    replace HS := Lib.hid (HS.out.below hal)
    replace HT := Lib.hid (HT.out.below hal)
    replace HA := Lib.hid (HA.out.below hal)
    replace HB := Lib.hid (HB.out.below hal)
    have HP := Lib.hid (hbx)
    clear hal hbx
    obtain ⟨j, hj⟩ : ∃ j, jfl fs r ⟨pa, pb, pc, pd⟩ = j := ⟨_, rfl⟩
    have HJ := Lib.hid hj
    have HRA := Lib.hid (fparts_hit (a := c) HXX.out hpk hj)
    have HRB := Lib.hid (fparts_hit (a := !c) HXX.out hpk hj)
    rw [HPA.out] at HRA
    rw [HPB2.out] at HRB
    clear hj hpk HPB HPL HVB HPA HPB2 HXX hlen HOK HFN
    generalize A.length = an at *
    generalize B.length = bn at *
    generalize fs.length = n at *
    cases j <;> cases c
    · obtain ⟨zl, z0, z1, z2, z3, zf⟩ := HP.out
      go_wp2_with fail
      (refine wp_region_belG (W := W) [BIs (.bool true), BIs (.bool true), BIs (.slice xa an xc), BIs (.agg #[.int .i64 pa, .int .i64 pb, .int .i64 pc, .int .i64 pd]), (BIs (.bool true)), BIs (.slice sa n sc), BIs (.bool r), BIs (.agg #[.int .i64 pa, .int .i64 pb, .int .i64 pc, .int .i64 pd]), (BIs (.bool false)), BIs (.bool false), BIs (.bool true), BIs (.bool true), BIs (.bool true), BIs (.bool true), BIs (.slice ba bn bc), BIs (.agg #[.int .i64 pa, .int .i64 pb, .int .i64 pc, .int .i64 pd]), (BIs (.bool false)), BIs (.slice xa an xc), BIs (.agg #[.int .i64 pa, .int .i64 pb, .int .i64 pc, .int .i64 pd]), (BIs (.bool true)), BIs (.bool true), BIs (.bool true), BIs (.bool true)] (by kernel_rfl) (fun u => by simp only [frU, Act.put, List.setIfInBounds_toArray, List.set_cons_succ, List.set_cons_zero, Nat.zero_add, Nat.reduceAdd]; exact rfl) (by kernel_rfl) ⟨bst_is _, bst_is _, bst_is _, bst_is _, (bst_is _), bst_is _, bst_is _, bst_is _, (bst_is _), bst_is _, bst_is _, bst_is _, bst_is _, bst_is _, bst_is _, bst_is _, (bst_is _), bst_is _, bst_is _, (bst_is _), bst_is _, bst_is _, bst_is _, trivial⟩ ?_ ?_; exact ⟨stG (fun u w3 hC hd => ⟨rfl, fun Q K hK => by (go_step; exact hK _ _ rfl (Below.refl _ _) rfl)⟩), stG (fun u w3 hC hd => ⟨rfl, fun Q K hK => by (have hu := bis (w := w3) (hd 0 rfl); rw [hu] at hK ⊢; clear hu; go_step; exact hK _ _ rfl (Below.refl _ _) rfl)⟩), stG (fun u w3 hC hd => ⟨by (have hu := bis (w := w3) (hd 1 rfl); rw [hu]; rfl), fun Q K hK => by (go_step; exact hK _ _ rfl (Below.refl _ _) rfl)⟩), stG (fun u w3 hC hd => ⟨by (have hu := bis (w := w3) (hd 1 rfl); rw [hu]; rfl), fun Q K hK => by (have e0 := (hC.cell (p := ⟨w8.heap.size, 0, none⟩) zl).trans z0; have e1 := (hC.cell (p := ⟨w8.heap.size, 1, none⟩) zl).trans z1; have e2 := (hC.cell (p := ⟨w8.heap.size, 2, none⟩) zl).trans z2; have e3 := (hC.cell (p := ⟨w8.heap.size, 3, none⟩) zl).trans z3; go_step; exact hK _ _ rfl (Below.refl _ _) rfl)⟩), stG (fun u w3 hC hd => ⟨by (have hu := bis (w := w3) (hd 1 rfl); rw [hu]; rfl), fun Q K hK => by (have hu := bis (w := w3) (hd 2 rfl); rw [hu] at hK ⊢; clear hu; have hu := bis (w := w3) (hd 3 rfl); rw [hu] at hK ⊢; clear hu; go_step; refine (implRH_b (HA.out.below hC) (HT.out.below hC) HRA.out).mono ?_; rintro e w4 ⟨rfl, hb4⟩; exact hK _ _ rfl hb4 rfl)⟩), stG (fun u w3 hC hd => ⟨by (have hu := bis (w := w3) (hd 1 rfl); rw [hu]; rfl), fun Q K hK => by (go_step; exact hK _ _ rfl (Below.refl _ _) rfl)⟩), stG (fun u w3 hC hd => ⟨by (have hu := bis (w := w3) (hd 1 rfl); rw [hu]; rfl), fun Q K hK => by (go_step; exact hK _ _ rfl (Below.refl _ _) rfl)⟩), stG (fun u w3 hC hd => ⟨by (have hu := bis (w := w3) (hd 1 rfl); rw [hu]; rfl), fun Q K hK => by (have e0 := (hC.cell (p := ⟨w8.heap.size, 0, none⟩) zl).trans z0; have e1 := (hC.cell (p := ⟨w8.heap.size, 1, none⟩) zl).trans z1; have e2 := (hC.cell (p := ⟨w8.heap.size, 2, none⟩) zl).trans z2; have e3 := (hC.cell (p := ⟨w8.heap.size, 3, none⟩) zl).trans z3; go_step; exact hK _ _ rfl (Below.refl _ _) rfl)⟩), stG (fun u w3 hC hd => ⟨by (have hu := bis (w := w3) (hd 1 rfl); rw [hu]; rfl), fun Q K hK => by (have hu := bis (w := w3) (hd 5 rfl); rw [hu] at hK ⊢; clear hu; have hu := bis (w := w3) (hd 6 rfl); rw [hu] at hK ⊢; clear hu; have hu := bis (w := w3) (hd 7 rfl); rw [hu] at hK ⊢; clear hu; go_step; refine (implJF_b (HS.out.below hC) (HT.out.below hC) HJ.out).mono ?_; rintro e w4 ⟨rfl, hb4⟩; exact hK _ _ rfl hb4 rfl)⟩), stG (fun u w3 hC hd => ⟨by (have hu := bis (w := w3) (hd 1 rfl); rw [hu]; rfl), fun Q K hK => by (go_step; exact hK _ _ rfl (Below.refl _ _) rfl)⟩), stG (fun u w3 hC hd => ⟨by (have hu := bis (w := w3) (hd 1 rfl); rw [hu]; rfl), fun Q K hK => by (have hu := bis (w := w3) (hd 8 rfl); rw [hu] at hK ⊢; clear hu; have hu := bis (w := w3) (hd 9 rfl); rw [hu] at hK ⊢; clear hu; go_step; exact hK _ _ rfl (Below.refl _ _) rfl)⟩), stG (fun u w3 hC hd => ⟨by (have hu := bis (w := w3) (hd 1 rfl); rw [hu]; rfl), fun Q K hK => by (have hu := bis (w := w3) (hd 4 rfl); rw [hu] at hK ⊢; clear hu; have hu := bis (w := w3) (hd 10 rfl); rw [hu] at hK ⊢; clear hu; go_step; exact hK _ _ rfl (Below.refl _ _) rfl)⟩), stG (fun u w3 hC hd => ⟨rfl, fun Q K hK => by (have hu := bis (w := w3) (hd 1 rfl); rw [hu] at hK ⊢; clear hu; have hu := bis (w := w3) (hd 11 rfl); rw [hu] at hK ⊢; clear hu; go_step; exact hK _ _ rfl (Below.refl _ _) rfl)⟩), stG (fun u w3 hC hd => ⟨rfl, fun Q K hK => by (have hu := bis (w := w3) (hd 12 rfl); rw [hu] at hK ⊢; clear hu; go_step; exact hK _ _ rfl (Below.refl _ _) rfl)⟩), stG (fun u w3 hC hd => ⟨by (have hu := bis (w := w3) (hd 13 rfl); rw [hu]; rfl), fun Q K hK => by (go_step; exact hK _ _ rfl (Below.refl _ _) rfl)⟩), stG (fun u w3 hC hd => ⟨by (have hu := bis (w := w3) (hd 13 rfl); rw [hu]; rfl), fun Q K hK => by (have e0 := (hC.cell (p := ⟨w8.heap.size, 0, none⟩) zl).trans z0; have e1 := (hC.cell (p := ⟨w8.heap.size, 1, none⟩) zl).trans z1; have e2 := (hC.cell (p := ⟨w8.heap.size, 2, none⟩) zl).trans z2; have e3 := (hC.cell (p := ⟨w8.heap.size, 3, none⟩) zl).trans z3; go_step; exact hK _ _ rfl (Below.refl _ _) rfl)⟩), stG (fun u w3 hC hd => ⟨by (have hu := bis (w := w3) (hd 13 rfl); rw [hu]; rfl), fun Q K hK => by (have hu := bis (w := w3) (hd 14 rfl); rw [hu] at hK ⊢; clear hu; have hu := bis (w := w3) (hd 15 rfl); rw [hu] at hK ⊢; clear hu; go_step; refine (implRH_b (HB.out.below hC) (HT.out.below hC) HRB.out).mono ?_; rintro e w4 ⟨rfl, hb4⟩; exact hK _ _ rfl hb4 rfl)⟩), stG (fun u w3 hC hd => ⟨by (have hu := bis (w := w3) (hd 13 rfl); rw [hu]; rfl), fun Q K hK => by (go_step; exact hK _ _ rfl (Below.refl _ _) rfl)⟩), stG (fun u w3 hC hd => ⟨by (have hu := bis (w := w3) (hd 13 rfl); rw [hu]; rfl), fun Q K hK => by (have e0 := (hC.cell (p := ⟨w8.heap.size, 0, none⟩) zl).trans z0; have e1 := (hC.cell (p := ⟨w8.heap.size, 1, none⟩) zl).trans z1; have e2 := (hC.cell (p := ⟨w8.heap.size, 2, none⟩) zl).trans z2; have e3 := (hC.cell (p := ⟨w8.heap.size, 3, none⟩) zl).trans z3; go_step; exact hK _ _ rfl (Below.refl _ _) rfl)⟩), stG (fun u w3 hC hd => ⟨by (have hu := bis (w := w3) (hd 13 rfl); rw [hu]; rfl), fun Q K hK => by (have hu := bis (w := w3) (hd 17 rfl); rw [hu] at hK ⊢; clear hu; have hu := bis (w := w3) (hd 18 rfl); rw [hu] at hK ⊢; clear hu; go_step; refine (implRH_b (HA.out.below hC) (HT.out.below hC) HRA.out).mono ?_; rintro e w4 ⟨rfl, hb4⟩; exact hK _ _ rfl hb4 rfl)⟩), stG (fun u w3 hC hd => ⟨by (have hu := bis (w := w3) (hd 13 rfl); rw [hu]; rfl), fun Q K hK => by (have hu := bis (w := w3) (hd 16 rfl); rw [hu] at hK ⊢; clear hu; have hu := bis (w := w3) (hd 19 rfl); rw [hu] at hK ⊢; clear hu; go_step; exact hK _ _ rfl (Below.refl _ _) rfl)⟩), stG (fun u w3 hC hd => ⟨rfl, fun Q K hK => by (have hu := bis (w := w3) (hd 13 rfl); rw [hu] at hK ⊢; clear hu; have hu := bis (w := w3) (hd 20 rfl); rw [hu] at hK ⊢; clear hu; go_step; exact hK _ _ rfl (Below.refl _ _) rfl)⟩), stG (fun u w3 hC hd => ⟨rfl, fun Q K hK => by (have hu := bis (w := w3) (hd 21 rfl); rw [hu] at hK ⊢; clear hu; go_step; exact hK _ _ rfl (Below.refl _ _) rfl)⟩), trivial⟩); intro u wz hb_wz hF; rw [bis (w := wz) (hF 0 (by decide))]; rw [bis (w := wz) (hF 1 (by decide))]; rw [bis (w := wz) (hF 2 (by decide))]; rw [bis (w := wz) (hF 3 (by decide))]; generalize u 4 = vx4 at *; rw [bis (w := wz) (hF 5 (by decide))]; rw [bis (w := wz) (hF 6 (by decide))]; rw [bis (w := wz) (hF 7 (by decide))]; generalize u 8 = vx8 at *; rw [bis (w := wz) (hF 9 (by decide))]; rw [bis (w := wz) (hF 10 (by decide))]; rw [bis (w := wz) (hF 11 (by decide))]; rw [bis (w := wz) (hF 12 (by decide))]; rw [bis (w := wz) (hF 13 (by decide))]; rw [bis (w := wz) (hF 14 (by decide))]; rw [bis (w := wz) (hF 15 (by decide))]; generalize u 16 = vx16 at *; rw [bis (w := wz) (hF 17 (by decide))]; rw [bis (w := wz) (hF 18 (by decide))]; generalize u 19 = vx19 at *; rw [bis (w := wz) (hF 20 (by decide))]; rw [bis (w := wz) (hF 21 (by decide))]; rw [bis (w := wz) (hF 22 (by decide))]; clear hF
      have hw_wz := hw_W.trans (hb_wz.mono hw_W.size)
      clear hw_W
      replace HS := Lib.hid (HS.out.below hb_wz)
      replace HT := Lib.hid (HT.out.below hb_wz)
      replace HA := Lib.hid (HA.out.below hb_wz)
      replace HB := Lib.hid (HB.out.below hb_wz)
      replace HP := Lib.hid (Box4.bel HP.out hb_wz)
      go_wp2
      go_ret
      exact ⟨rfl, hw_wz⟩
    · obtain ⟨zl, z0, z1, z2, z3, zf⟩ := HP.out
      go_wp2_with fail
      (refine wp_region_belG (W := W) [BIs (.bool true), BIs (.bool true), BIs (.slice xa an xc), BIs (.agg #[.int .i64 pa, .int .i64 pb, .int .i64 pc, .int .i64 pd]), (BIs (.bool false)), BIs (.slice sa n sc), BIs (.bool r), BIs (.agg #[.int .i64 pa, .int .i64 pb, .int .i64 pc, .int .i64 pd]), (BIs (.bool false)), BIs (.bool true), BIs (.bool false), BIs (.bool true), BIs (.bool true), BIs (.bool true), BIs (.slice ba bn bc), BIs (.agg #[.int .i64 pa, .int .i64 pb, .int .i64 pc, .int .i64 pd]), (BIs (.bool true)), BIs (.slice xa an xc), BIs (.agg #[.int .i64 pa, .int .i64 pb, .int .i64 pc, .int .i64 pd]), (BIs (.bool false)), BIs (.bool true), BIs (.bool true), BIs (.bool true)] (by kernel_rfl) (fun u => by simp only [frU, Act.put, List.setIfInBounds_toArray, List.set_cons_succ, List.set_cons_zero, Nat.zero_add, Nat.reduceAdd]; exact rfl) (by kernel_rfl) ⟨bst_is _, bst_is _, bst_is _, bst_is _, (bst_is _), bst_is _, bst_is _, bst_is _, (bst_is _), bst_is _, bst_is _, bst_is _, bst_is _, bst_is _, bst_is _, bst_is _, (bst_is _), bst_is _, bst_is _, (bst_is _), bst_is _, bst_is _, bst_is _, trivial⟩ ?_ ?_; exact ⟨stG (fun u w3 hC hd => ⟨rfl, fun Q K hK => by (go_step; exact hK _ _ rfl (Below.refl _ _) rfl)⟩), stG (fun u w3 hC hd => ⟨rfl, fun Q K hK => by (have hu := bis (w := w3) (hd 0 rfl); rw [hu] at hK ⊢; clear hu; go_step; exact hK _ _ rfl (Below.refl _ _) rfl)⟩), stG (fun u w3 hC hd => ⟨by (have hu := bis (w := w3) (hd 1 rfl); rw [hu]; rfl), fun Q K hK => by (go_step; exact hK _ _ rfl (Below.refl _ _) rfl)⟩), stG (fun u w3 hC hd => ⟨by (have hu := bis (w := w3) (hd 1 rfl); rw [hu]; rfl), fun Q K hK => by (have e0 := (hC.cell (p := ⟨w8.heap.size, 0, none⟩) zl).trans z0; have e1 := (hC.cell (p := ⟨w8.heap.size, 1, none⟩) zl).trans z1; have e2 := (hC.cell (p := ⟨w8.heap.size, 2, none⟩) zl).trans z2; have e3 := (hC.cell (p := ⟨w8.heap.size, 3, none⟩) zl).trans z3; go_step; exact hK _ _ rfl (Below.refl _ _) rfl)⟩), stG (fun u w3 hC hd => ⟨by (have hu := bis (w := w3) (hd 1 rfl); rw [hu]; rfl), fun Q K hK => by (have hu := bis (w := w3) (hd 2 rfl); rw [hu] at hK ⊢; clear hu; have hu := bis (w := w3) (hd 3 rfl); rw [hu] at hK ⊢; clear hu; go_step; refine (implRH_b (HA.out.below hC) (HT.out.below hC) HRA.out).mono ?_; rintro e w4 ⟨rfl, hb4⟩; exact hK _ _ rfl hb4 rfl)⟩), stG (fun u w3 hC hd => ⟨by (have hu := bis (w := w3) (hd 1 rfl); rw [hu]; rfl), fun Q K hK => by (go_step; exact hK _ _ rfl (Below.refl _ _) rfl)⟩), stG (fun u w3 hC hd => ⟨by (have hu := bis (w := w3) (hd 1 rfl); rw [hu]; rfl), fun Q K hK => by (go_step; exact hK _ _ rfl (Below.refl _ _) rfl)⟩), stG (fun u w3 hC hd => ⟨by (have hu := bis (w := w3) (hd 1 rfl); rw [hu]; rfl), fun Q K hK => by (have e0 := (hC.cell (p := ⟨w8.heap.size, 0, none⟩) zl).trans z0; have e1 := (hC.cell (p := ⟨w8.heap.size, 1, none⟩) zl).trans z1; have e2 := (hC.cell (p := ⟨w8.heap.size, 2, none⟩) zl).trans z2; have e3 := (hC.cell (p := ⟨w8.heap.size, 3, none⟩) zl).trans z3; go_step; exact hK _ _ rfl (Below.refl _ _) rfl)⟩), stG (fun u w3 hC hd => ⟨by (have hu := bis (w := w3) (hd 1 rfl); rw [hu]; rfl), fun Q K hK => by (have hu := bis (w := w3) (hd 5 rfl); rw [hu] at hK ⊢; clear hu; have hu := bis (w := w3) (hd 6 rfl); rw [hu] at hK ⊢; clear hu; have hu := bis (w := w3) (hd 7 rfl); rw [hu] at hK ⊢; clear hu; go_step; refine (implJF_b (HS.out.below hC) (HT.out.below hC) HJ.out).mono ?_; rintro e w4 ⟨rfl, hb4⟩; exact hK _ _ rfl hb4 rfl)⟩), stG (fun u w3 hC hd => ⟨by (have hu := bis (w := w3) (hd 1 rfl); rw [hu]; rfl), fun Q K hK => by (go_step; exact hK _ _ rfl (Below.refl _ _) rfl)⟩), stG (fun u w3 hC hd => ⟨by (have hu := bis (w := w3) (hd 1 rfl); rw [hu]; rfl), fun Q K hK => by (have hu := bis (w := w3) (hd 8 rfl); rw [hu] at hK ⊢; clear hu; have hu := bis (w := w3) (hd 9 rfl); rw [hu] at hK ⊢; clear hu; go_step; exact hK _ _ rfl (Below.refl _ _) rfl)⟩), stG (fun u w3 hC hd => ⟨by (have hu := bis (w := w3) (hd 1 rfl); rw [hu]; rfl), fun Q K hK => by (have hu := bis (w := w3) (hd 4 rfl); rw [hu] at hK ⊢; clear hu; have hu := bis (w := w3) (hd 10 rfl); rw [hu] at hK ⊢; clear hu; go_step; exact hK _ _ rfl (Below.refl _ _) rfl)⟩), stG (fun u w3 hC hd => ⟨rfl, fun Q K hK => by (have hu := bis (w := w3) (hd 1 rfl); rw [hu] at hK ⊢; clear hu; have hu := bis (w := w3) (hd 11 rfl); rw [hu] at hK ⊢; clear hu; go_step; exact hK _ _ rfl (Below.refl _ _) rfl)⟩), stG (fun u w3 hC hd => ⟨rfl, fun Q K hK => by (have hu := bis (w := w3) (hd 12 rfl); rw [hu] at hK ⊢; clear hu; go_step; exact hK _ _ rfl (Below.refl _ _) rfl)⟩), stG (fun u w3 hC hd => ⟨by (have hu := bis (w := w3) (hd 13 rfl); rw [hu]; rfl), fun Q K hK => by (go_step; exact hK _ _ rfl (Below.refl _ _) rfl)⟩), stG (fun u w3 hC hd => ⟨by (have hu := bis (w := w3) (hd 13 rfl); rw [hu]; rfl), fun Q K hK => by (have e0 := (hC.cell (p := ⟨w8.heap.size, 0, none⟩) zl).trans z0; have e1 := (hC.cell (p := ⟨w8.heap.size, 1, none⟩) zl).trans z1; have e2 := (hC.cell (p := ⟨w8.heap.size, 2, none⟩) zl).trans z2; have e3 := (hC.cell (p := ⟨w8.heap.size, 3, none⟩) zl).trans z3; go_step; exact hK _ _ rfl (Below.refl _ _) rfl)⟩), stG (fun u w3 hC hd => ⟨by (have hu := bis (w := w3) (hd 13 rfl); rw [hu]; rfl), fun Q K hK => by (have hu := bis (w := w3) (hd 14 rfl); rw [hu] at hK ⊢; clear hu; have hu := bis (w := w3) (hd 15 rfl); rw [hu] at hK ⊢; clear hu; go_step; refine (implRH_b (HB.out.below hC) (HT.out.below hC) HRB.out).mono ?_; rintro e w4 ⟨rfl, hb4⟩; exact hK _ _ rfl hb4 rfl)⟩), stG (fun u w3 hC hd => ⟨by (have hu := bis (w := w3) (hd 13 rfl); rw [hu]; rfl), fun Q K hK => by (go_step; exact hK _ _ rfl (Below.refl _ _) rfl)⟩), stG (fun u w3 hC hd => ⟨by (have hu := bis (w := w3) (hd 13 rfl); rw [hu]; rfl), fun Q K hK => by (have e0 := (hC.cell (p := ⟨w8.heap.size, 0, none⟩) zl).trans z0; have e1 := (hC.cell (p := ⟨w8.heap.size, 1, none⟩) zl).trans z1; have e2 := (hC.cell (p := ⟨w8.heap.size, 2, none⟩) zl).trans z2; have e3 := (hC.cell (p := ⟨w8.heap.size, 3, none⟩) zl).trans z3; go_step; exact hK _ _ rfl (Below.refl _ _) rfl)⟩), stG (fun u w3 hC hd => ⟨by (have hu := bis (w := w3) (hd 13 rfl); rw [hu]; rfl), fun Q K hK => by (have hu := bis (w := w3) (hd 17 rfl); rw [hu] at hK ⊢; clear hu; have hu := bis (w := w3) (hd 18 rfl); rw [hu] at hK ⊢; clear hu; go_step; refine (implRH_b (HA.out.below hC) (HT.out.below hC) HRA.out).mono ?_; rintro e w4 ⟨rfl, hb4⟩; exact hK _ _ rfl hb4 rfl)⟩), stG (fun u w3 hC hd => ⟨by (have hu := bis (w := w3) (hd 13 rfl); rw [hu]; rfl), fun Q K hK => by (have hu := bis (w := w3) (hd 16 rfl); rw [hu] at hK ⊢; clear hu; have hu := bis (w := w3) (hd 19 rfl); rw [hu] at hK ⊢; clear hu; go_step; exact hK _ _ rfl (Below.refl _ _) rfl)⟩), stG (fun u w3 hC hd => ⟨rfl, fun Q K hK => by (have hu := bis (w := w3) (hd 13 rfl); rw [hu] at hK ⊢; clear hu; have hu := bis (w := w3) (hd 20 rfl); rw [hu] at hK ⊢; clear hu; go_step; exact hK _ _ rfl (Below.refl _ _) rfl)⟩), stG (fun u w3 hC hd => ⟨rfl, fun Q K hK => by (have hu := bis (w := w3) (hd 21 rfl); rw [hu] at hK ⊢; clear hu; go_step; exact hK _ _ rfl (Below.refl _ _) rfl)⟩), trivial⟩); intro u wz hb_wz hF; rw [bis (w := wz) (hF 0 (by decide))]; rw [bis (w := wz) (hF 1 (by decide))]; rw [bis (w := wz) (hF 2 (by decide))]; rw [bis (w := wz) (hF 3 (by decide))]; generalize u 4 = vx4 at *; rw [bis (w := wz) (hF 5 (by decide))]; rw [bis (w := wz) (hF 6 (by decide))]; rw [bis (w := wz) (hF 7 (by decide))]; generalize u 8 = vx8 at *; rw [bis (w := wz) (hF 9 (by decide))]; rw [bis (w := wz) (hF 10 (by decide))]; rw [bis (w := wz) (hF 11 (by decide))]; rw [bis (w := wz) (hF 12 (by decide))]; rw [bis (w := wz) (hF 13 (by decide))]; rw [bis (w := wz) (hF 14 (by decide))]; rw [bis (w := wz) (hF 15 (by decide))]; generalize u 16 = vx16 at *; rw [bis (w := wz) (hF 17 (by decide))]; rw [bis (w := wz) (hF 18 (by decide))]; generalize u 19 = vx19 at *; rw [bis (w := wz) (hF 20 (by decide))]; rw [bis (w := wz) (hF 21 (by decide))]; rw [bis (w := wz) (hF 22 (by decide))]; clear hF
      have hw_wz := hw_W.trans (hb_wz.mono hw_W.size)
      clear hw_W
      replace HS := Lib.hid (HS.out.below hb_wz)
      replace HT := Lib.hid (HT.out.below hb_wz)
      replace HA := Lib.hid (HA.out.below hb_wz)
      replace HB := Lib.hid (HB.out.below hb_wz)
      replace HP := Lib.hid (Box4.bel HP.out hb_wz)
      go_wp2
      go_ret
      exact ⟨rfl, hw_wz⟩
    · obtain ⟨zl, z0, z1, z2, z3, zf⟩ := HP.out
      go_wp2_with fail
      (refine wp_region_belG (W := W) [BIs (.bool true), BIs (.bool true), BIs (.slice xa an xc), BIs (.agg #[.int .i64 pa, .int .i64 pb, .int .i64 pc, .int .i64 pd]), (BIs (.bool false)), BIs (.slice sa n sc), BIs (.bool r), BIs (.agg #[.int .i64 pa, .int .i64 pb, .int .i64 pc, .int .i64 pd]), (BIs (.bool true)), BIs (.bool false), BIs (.bool false), BIs (.bool true), BIs (.bool true), BIs (.bool true), BIs (.slice ba bn bc), BIs (.agg #[.int .i64 pa, .int .i64 pb, .int .i64 pc, .int .i64 pd]), (BIs (.bool true)), BIs (.slice xa an xc), BIs (.agg #[.int .i64 pa, .int .i64 pb, .int .i64 pc, .int .i64 pd]), (BIs (.bool false)), BIs (.bool true), BIs (.bool true), BIs (.bool true)] (by kernel_rfl) (fun u => by simp only [frU, Act.put, List.setIfInBounds_toArray, List.set_cons_succ, List.set_cons_zero, Nat.zero_add, Nat.reduceAdd]; exact rfl) (by kernel_rfl) ⟨bst_is _, bst_is _, bst_is _, bst_is _, (bst_is _), bst_is _, bst_is _, bst_is _, (bst_is _), bst_is _, bst_is _, bst_is _, bst_is _, bst_is _, bst_is _, bst_is _, (bst_is _), bst_is _, bst_is _, (bst_is _), bst_is _, bst_is _, bst_is _, trivial⟩ ?_ ?_; exact ⟨stG (fun u w3 hC hd => ⟨rfl, fun Q K hK => by (go_step; exact hK _ _ rfl (Below.refl _ _) rfl)⟩), stG (fun u w3 hC hd => ⟨rfl, fun Q K hK => by (have hu := bis (w := w3) (hd 0 rfl); rw [hu] at hK ⊢; clear hu; go_step; exact hK _ _ rfl (Below.refl _ _) rfl)⟩), stG (fun u w3 hC hd => ⟨by (have hu := bis (w := w3) (hd 1 rfl); rw [hu]; rfl), fun Q K hK => by (go_step; exact hK _ _ rfl (Below.refl _ _) rfl)⟩), stG (fun u w3 hC hd => ⟨by (have hu := bis (w := w3) (hd 1 rfl); rw [hu]; rfl), fun Q K hK => by (have e0 := (hC.cell (p := ⟨w8.heap.size, 0, none⟩) zl).trans z0; have e1 := (hC.cell (p := ⟨w8.heap.size, 1, none⟩) zl).trans z1; have e2 := (hC.cell (p := ⟨w8.heap.size, 2, none⟩) zl).trans z2; have e3 := (hC.cell (p := ⟨w8.heap.size, 3, none⟩) zl).trans z3; go_step; exact hK _ _ rfl (Below.refl _ _) rfl)⟩), stG (fun u w3 hC hd => ⟨by (have hu := bis (w := w3) (hd 1 rfl); rw [hu]; rfl), fun Q K hK => by (have hu := bis (w := w3) (hd 2 rfl); rw [hu] at hK ⊢; clear hu; have hu := bis (w := w3) (hd 3 rfl); rw [hu] at hK ⊢; clear hu; go_step; refine (implRH_b (HA.out.below hC) (HT.out.below hC) HRA.out).mono ?_; rintro e w4 ⟨rfl, hb4⟩; exact hK _ _ rfl hb4 rfl)⟩), stG (fun u w3 hC hd => ⟨by (have hu := bis (w := w3) (hd 1 rfl); rw [hu]; rfl), fun Q K hK => by (go_step; exact hK _ _ rfl (Below.refl _ _) rfl)⟩), stG (fun u w3 hC hd => ⟨by (have hu := bis (w := w3) (hd 1 rfl); rw [hu]; rfl), fun Q K hK => by (go_step; exact hK _ _ rfl (Below.refl _ _) rfl)⟩), stG (fun u w3 hC hd => ⟨by (have hu := bis (w := w3) (hd 1 rfl); rw [hu]; rfl), fun Q K hK => by (have e0 := (hC.cell (p := ⟨w8.heap.size, 0, none⟩) zl).trans z0; have e1 := (hC.cell (p := ⟨w8.heap.size, 1, none⟩) zl).trans z1; have e2 := (hC.cell (p := ⟨w8.heap.size, 2, none⟩) zl).trans z2; have e3 := (hC.cell (p := ⟨w8.heap.size, 3, none⟩) zl).trans z3; go_step; exact hK _ _ rfl (Below.refl _ _) rfl)⟩), stG (fun u w3 hC hd => ⟨by (have hu := bis (w := w3) (hd 1 rfl); rw [hu]; rfl), fun Q K hK => by (have hu := bis (w := w3) (hd 5 rfl); rw [hu] at hK ⊢; clear hu; have hu := bis (w := w3) (hd 6 rfl); rw [hu] at hK ⊢; clear hu; have hu := bis (w := w3) (hd 7 rfl); rw [hu] at hK ⊢; clear hu; go_step; refine (implJF_b (HS.out.below hC) (HT.out.below hC) HJ.out).mono ?_; rintro e w4 ⟨rfl, hb4⟩; exact hK _ _ rfl hb4 rfl)⟩), stG (fun u w3 hC hd => ⟨by (have hu := bis (w := w3) (hd 1 rfl); rw [hu]; rfl), fun Q K hK => by (go_step; exact hK _ _ rfl (Below.refl _ _) rfl)⟩), stG (fun u w3 hC hd => ⟨by (have hu := bis (w := w3) (hd 1 rfl); rw [hu]; rfl), fun Q K hK => by (have hu := bis (w := w3) (hd 8 rfl); rw [hu] at hK ⊢; clear hu; have hu := bis (w := w3) (hd 9 rfl); rw [hu] at hK ⊢; clear hu; go_step; exact hK _ _ rfl (Below.refl _ _) rfl)⟩), stG (fun u w3 hC hd => ⟨by (have hu := bis (w := w3) (hd 1 rfl); rw [hu]; rfl), fun Q K hK => by (have hu := bis (w := w3) (hd 4 rfl); rw [hu] at hK ⊢; clear hu; have hu := bis (w := w3) (hd 10 rfl); rw [hu] at hK ⊢; clear hu; go_step; exact hK _ _ rfl (Below.refl _ _) rfl)⟩), stG (fun u w3 hC hd => ⟨rfl, fun Q K hK => by (have hu := bis (w := w3) (hd 1 rfl); rw [hu] at hK ⊢; clear hu; have hu := bis (w := w3) (hd 11 rfl); rw [hu] at hK ⊢; clear hu; go_step; exact hK _ _ rfl (Below.refl _ _) rfl)⟩), stG (fun u w3 hC hd => ⟨rfl, fun Q K hK => by (have hu := bis (w := w3) (hd 12 rfl); rw [hu] at hK ⊢; clear hu; go_step; exact hK _ _ rfl (Below.refl _ _) rfl)⟩), stG (fun u w3 hC hd => ⟨by (have hu := bis (w := w3) (hd 13 rfl); rw [hu]; rfl), fun Q K hK => by (go_step; exact hK _ _ rfl (Below.refl _ _) rfl)⟩), stG (fun u w3 hC hd => ⟨by (have hu := bis (w := w3) (hd 13 rfl); rw [hu]; rfl), fun Q K hK => by (have e0 := (hC.cell (p := ⟨w8.heap.size, 0, none⟩) zl).trans z0; have e1 := (hC.cell (p := ⟨w8.heap.size, 1, none⟩) zl).trans z1; have e2 := (hC.cell (p := ⟨w8.heap.size, 2, none⟩) zl).trans z2; have e3 := (hC.cell (p := ⟨w8.heap.size, 3, none⟩) zl).trans z3; go_step; exact hK _ _ rfl (Below.refl _ _) rfl)⟩), stG (fun u w3 hC hd => ⟨by (have hu := bis (w := w3) (hd 13 rfl); rw [hu]; rfl), fun Q K hK => by (have hu := bis (w := w3) (hd 14 rfl); rw [hu] at hK ⊢; clear hu; have hu := bis (w := w3) (hd 15 rfl); rw [hu] at hK ⊢; clear hu; go_step; refine (implRH_b (HB.out.below hC) (HT.out.below hC) HRB.out).mono ?_; rintro e w4 ⟨rfl, hb4⟩; exact hK _ _ rfl hb4 rfl)⟩), stG (fun u w3 hC hd => ⟨by (have hu := bis (w := w3) (hd 13 rfl); rw [hu]; rfl), fun Q K hK => by (go_step; exact hK _ _ rfl (Below.refl _ _) rfl)⟩), stG (fun u w3 hC hd => ⟨by (have hu := bis (w := w3) (hd 13 rfl); rw [hu]; rfl), fun Q K hK => by (have e0 := (hC.cell (p := ⟨w8.heap.size, 0, none⟩) zl).trans z0; have e1 := (hC.cell (p := ⟨w8.heap.size, 1, none⟩) zl).trans z1; have e2 := (hC.cell (p := ⟨w8.heap.size, 2, none⟩) zl).trans z2; have e3 := (hC.cell (p := ⟨w8.heap.size, 3, none⟩) zl).trans z3; go_step; exact hK _ _ rfl (Below.refl _ _) rfl)⟩), stG (fun u w3 hC hd => ⟨by (have hu := bis (w := w3) (hd 13 rfl); rw [hu]; rfl), fun Q K hK => by (have hu := bis (w := w3) (hd 17 rfl); rw [hu] at hK ⊢; clear hu; have hu := bis (w := w3) (hd 18 rfl); rw [hu] at hK ⊢; clear hu; go_step; refine (implRH_b (HA.out.below hC) (HT.out.below hC) HRA.out).mono ?_; rintro e w4 ⟨rfl, hb4⟩; exact hK _ _ rfl hb4 rfl)⟩), stG (fun u w3 hC hd => ⟨by (have hu := bis (w := w3) (hd 13 rfl); rw [hu]; rfl), fun Q K hK => by (have hu := bis (w := w3) (hd 16 rfl); rw [hu] at hK ⊢; clear hu; have hu := bis (w := w3) (hd 19 rfl); rw [hu] at hK ⊢; clear hu; go_step; exact hK _ _ rfl (Below.refl _ _) rfl)⟩), stG (fun u w3 hC hd => ⟨rfl, fun Q K hK => by (have hu := bis (w := w3) (hd 13 rfl); rw [hu] at hK ⊢; clear hu; have hu := bis (w := w3) (hd 20 rfl); rw [hu] at hK ⊢; clear hu; go_step; exact hK _ _ rfl (Below.refl _ _) rfl)⟩), stG (fun u w3 hC hd => ⟨rfl, fun Q K hK => by (have hu := bis (w := w3) (hd 21 rfl); rw [hu] at hK ⊢; clear hu; go_step; exact hK _ _ rfl (Below.refl _ _) rfl)⟩), trivial⟩); intro u wz hb_wz hF; rw [bis (w := wz) (hF 0 (by decide))]; rw [bis (w := wz) (hF 1 (by decide))]; rw [bis (w := wz) (hF 2 (by decide))]; rw [bis (w := wz) (hF 3 (by decide))]; generalize u 4 = vx4 at *; rw [bis (w := wz) (hF 5 (by decide))]; rw [bis (w := wz) (hF 6 (by decide))]; rw [bis (w := wz) (hF 7 (by decide))]; generalize u 8 = vx8 at *; rw [bis (w := wz) (hF 9 (by decide))]; rw [bis (w := wz) (hF 10 (by decide))]; rw [bis (w := wz) (hF 11 (by decide))]; rw [bis (w := wz) (hF 12 (by decide))]; rw [bis (w := wz) (hF 13 (by decide))]; rw [bis (w := wz) (hF 14 (by decide))]; rw [bis (w := wz) (hF 15 (by decide))]; generalize u 16 = vx16 at *; rw [bis (w := wz) (hF 17 (by decide))]; rw [bis (w := wz) (hF 18 (by decide))]; generalize u 19 = vx19 at *; rw [bis (w := wz) (hF 20 (by decide))]; rw [bis (w := wz) (hF 21 (by decide))]; rw [bis (w := wz) (hF 22 (by decide))]; clear hF
      have hw_wz := hw_W.trans (hb_wz.mono hw_W.size)
      clear hw_W
      replace HS := Lib.hid (HS.out.below hb_wz)
      replace HT := Lib.hid (HT.out.below hb_wz)
      replace HA := Lib.hid (HA.out.below hb_wz)
      replace HB := Lib.hid (HB.out.below hb_wz)
      replace HP := Lib.hid (Box4.bel HP.out hb_wz)
      go_wp2
      go_ret
      exact ⟨rfl, hw_wz⟩
    · obtain ⟨zl, z0, z1, z2, z3, zf⟩ := HP.out
      go_wp2_with fail
      (refine wp_region_belG (W := W) [BIs (.bool true), BIs (.bool true), BIs (.slice xa an xc), BIs (.agg #[.int .i64 pa, .int .i64 pb, .int .i64 pc, .int .i64 pd]), (BIs (.bool true)), BIs (.slice sa n sc), BIs (.bool r), BIs (.agg #[.int .i64 pa, .int .i64 pb, .int .i64 pc, .int .i64 pd]), (BIs (.bool true)), BIs (.bool true), BIs (.bool true), BIs (.bool true), BIs (.bool true), BIs (.bool true), BIs (.slice ba bn bc), BIs (.agg #[.int .i64 pa, .int .i64 pb, .int .i64 pc, .int .i64 pd]), (BIs (.bool false)), BIs (.slice xa an xc), BIs (.agg #[.int .i64 pa, .int .i64 pb, .int .i64 pc, .int .i64 pd]), (BIs (.bool true)), BIs (.bool true), BIs (.bool true), BIs (.bool true)] (by kernel_rfl) (fun u => by simp only [frU, Act.put, List.setIfInBounds_toArray, List.set_cons_succ, List.set_cons_zero, Nat.zero_add, Nat.reduceAdd]; exact rfl) (by kernel_rfl) ⟨bst_is _, bst_is _, bst_is _, bst_is _, (bst_is _), bst_is _, bst_is _, bst_is _, (bst_is _), bst_is _, bst_is _, bst_is _, bst_is _, bst_is _, bst_is _, bst_is _, (bst_is _), bst_is _, bst_is _, (bst_is _), bst_is _, bst_is _, bst_is _, trivial⟩ ?_ ?_; exact ⟨stG (fun u w3 hC hd => ⟨rfl, fun Q K hK => by (go_step; exact hK _ _ rfl (Below.refl _ _) rfl)⟩), stG (fun u w3 hC hd => ⟨rfl, fun Q K hK => by (have hu := bis (w := w3) (hd 0 rfl); rw [hu] at hK ⊢; clear hu; go_step; exact hK _ _ rfl (Below.refl _ _) rfl)⟩), stG (fun u w3 hC hd => ⟨by (have hu := bis (w := w3) (hd 1 rfl); rw [hu]; rfl), fun Q K hK => by (go_step; exact hK _ _ rfl (Below.refl _ _) rfl)⟩), stG (fun u w3 hC hd => ⟨by (have hu := bis (w := w3) (hd 1 rfl); rw [hu]; rfl), fun Q K hK => by (have e0 := (hC.cell (p := ⟨w8.heap.size, 0, none⟩) zl).trans z0; have e1 := (hC.cell (p := ⟨w8.heap.size, 1, none⟩) zl).trans z1; have e2 := (hC.cell (p := ⟨w8.heap.size, 2, none⟩) zl).trans z2; have e3 := (hC.cell (p := ⟨w8.heap.size, 3, none⟩) zl).trans z3; go_step; exact hK _ _ rfl (Below.refl _ _) rfl)⟩), stG (fun u w3 hC hd => ⟨by (have hu := bis (w := w3) (hd 1 rfl); rw [hu]; rfl), fun Q K hK => by (have hu := bis (w := w3) (hd 2 rfl); rw [hu] at hK ⊢; clear hu; have hu := bis (w := w3) (hd 3 rfl); rw [hu] at hK ⊢; clear hu; go_step; refine (implRH_b (HA.out.below hC) (HT.out.below hC) HRA.out).mono ?_; rintro e w4 ⟨rfl, hb4⟩; exact hK _ _ rfl hb4 rfl)⟩), stG (fun u w3 hC hd => ⟨by (have hu := bis (w := w3) (hd 1 rfl); rw [hu]; rfl), fun Q K hK => by (go_step; exact hK _ _ rfl (Below.refl _ _) rfl)⟩), stG (fun u w3 hC hd => ⟨by (have hu := bis (w := w3) (hd 1 rfl); rw [hu]; rfl), fun Q K hK => by (go_step; exact hK _ _ rfl (Below.refl _ _) rfl)⟩), stG (fun u w3 hC hd => ⟨by (have hu := bis (w := w3) (hd 1 rfl); rw [hu]; rfl), fun Q K hK => by (have e0 := (hC.cell (p := ⟨w8.heap.size, 0, none⟩) zl).trans z0; have e1 := (hC.cell (p := ⟨w8.heap.size, 1, none⟩) zl).trans z1; have e2 := (hC.cell (p := ⟨w8.heap.size, 2, none⟩) zl).trans z2; have e3 := (hC.cell (p := ⟨w8.heap.size, 3, none⟩) zl).trans z3; go_step; exact hK _ _ rfl (Below.refl _ _) rfl)⟩), stG (fun u w3 hC hd => ⟨by (have hu := bis (w := w3) (hd 1 rfl); rw [hu]; rfl), fun Q K hK => by (have hu := bis (w := w3) (hd 5 rfl); rw [hu] at hK ⊢; clear hu; have hu := bis (w := w3) (hd 6 rfl); rw [hu] at hK ⊢; clear hu; have hu := bis (w := w3) (hd 7 rfl); rw [hu] at hK ⊢; clear hu; go_step; refine (implJF_b (HS.out.below hC) (HT.out.below hC) HJ.out).mono ?_; rintro e w4 ⟨rfl, hb4⟩; exact hK _ _ rfl hb4 rfl)⟩), stG (fun u w3 hC hd => ⟨by (have hu := bis (w := w3) (hd 1 rfl); rw [hu]; rfl), fun Q K hK => by (go_step; exact hK _ _ rfl (Below.refl _ _) rfl)⟩), stG (fun u w3 hC hd => ⟨by (have hu := bis (w := w3) (hd 1 rfl); rw [hu]; rfl), fun Q K hK => by (have hu := bis (w := w3) (hd 8 rfl); rw [hu] at hK ⊢; clear hu; have hu := bis (w := w3) (hd 9 rfl); rw [hu] at hK ⊢; clear hu; go_step; exact hK _ _ rfl (Below.refl _ _) rfl)⟩), stG (fun u w3 hC hd => ⟨by (have hu := bis (w := w3) (hd 1 rfl); rw [hu]; rfl), fun Q K hK => by (have hu := bis (w := w3) (hd 4 rfl); rw [hu] at hK ⊢; clear hu; have hu := bis (w := w3) (hd 10 rfl); rw [hu] at hK ⊢; clear hu; go_step; exact hK _ _ rfl (Below.refl _ _) rfl)⟩), stG (fun u w3 hC hd => ⟨rfl, fun Q K hK => by (have hu := bis (w := w3) (hd 1 rfl); rw [hu] at hK ⊢; clear hu; have hu := bis (w := w3) (hd 11 rfl); rw [hu] at hK ⊢; clear hu; go_step; exact hK _ _ rfl (Below.refl _ _) rfl)⟩), stG (fun u w3 hC hd => ⟨rfl, fun Q K hK => by (have hu := bis (w := w3) (hd 12 rfl); rw [hu] at hK ⊢; clear hu; go_step; exact hK _ _ rfl (Below.refl _ _) rfl)⟩), stG (fun u w3 hC hd => ⟨by (have hu := bis (w := w3) (hd 13 rfl); rw [hu]; rfl), fun Q K hK => by (go_step; exact hK _ _ rfl (Below.refl _ _) rfl)⟩), stG (fun u w3 hC hd => ⟨by (have hu := bis (w := w3) (hd 13 rfl); rw [hu]; rfl), fun Q K hK => by (have e0 := (hC.cell (p := ⟨w8.heap.size, 0, none⟩) zl).trans z0; have e1 := (hC.cell (p := ⟨w8.heap.size, 1, none⟩) zl).trans z1; have e2 := (hC.cell (p := ⟨w8.heap.size, 2, none⟩) zl).trans z2; have e3 := (hC.cell (p := ⟨w8.heap.size, 3, none⟩) zl).trans z3; go_step; exact hK _ _ rfl (Below.refl _ _) rfl)⟩), stG (fun u w3 hC hd => ⟨by (have hu := bis (w := w3) (hd 13 rfl); rw [hu]; rfl), fun Q K hK => by (have hu := bis (w := w3) (hd 14 rfl); rw [hu] at hK ⊢; clear hu; have hu := bis (w := w3) (hd 15 rfl); rw [hu] at hK ⊢; clear hu; go_step; refine (implRH_b (HB.out.below hC) (HT.out.below hC) HRB.out).mono ?_; rintro e w4 ⟨rfl, hb4⟩; exact hK _ _ rfl hb4 rfl)⟩), stG (fun u w3 hC hd => ⟨by (have hu := bis (w := w3) (hd 13 rfl); rw [hu]; rfl), fun Q K hK => by (go_step; exact hK _ _ rfl (Below.refl _ _) rfl)⟩), stG (fun u w3 hC hd => ⟨by (have hu := bis (w := w3) (hd 13 rfl); rw [hu]; rfl), fun Q K hK => by (have e0 := (hC.cell (p := ⟨w8.heap.size, 0, none⟩) zl).trans z0; have e1 := (hC.cell (p := ⟨w8.heap.size, 1, none⟩) zl).trans z1; have e2 := (hC.cell (p := ⟨w8.heap.size, 2, none⟩) zl).trans z2; have e3 := (hC.cell (p := ⟨w8.heap.size, 3, none⟩) zl).trans z3; go_step; exact hK _ _ rfl (Below.refl _ _) rfl)⟩), stG (fun u w3 hC hd => ⟨by (have hu := bis (w := w3) (hd 13 rfl); rw [hu]; rfl), fun Q K hK => by (have hu := bis (w := w3) (hd 17 rfl); rw [hu] at hK ⊢; clear hu; have hu := bis (w := w3) (hd 18 rfl); rw [hu] at hK ⊢; clear hu; go_step; refine (implRH_b (HA.out.below hC) (HT.out.below hC) HRA.out).mono ?_; rintro e w4 ⟨rfl, hb4⟩; exact hK _ _ rfl hb4 rfl)⟩), stG (fun u w3 hC hd => ⟨by (have hu := bis (w := w3) (hd 13 rfl); rw [hu]; rfl), fun Q K hK => by (have hu := bis (w := w3) (hd 16 rfl); rw [hu] at hK ⊢; clear hu; have hu := bis (w := w3) (hd 19 rfl); rw [hu] at hK ⊢; clear hu; go_step; exact hK _ _ rfl (Below.refl _ _) rfl)⟩), stG (fun u w3 hC hd => ⟨rfl, fun Q K hK => by (have hu := bis (w := w3) (hd 13 rfl); rw [hu] at hK ⊢; clear hu; have hu := bis (w := w3) (hd 20 rfl); rw [hu] at hK ⊢; clear hu; go_step; exact hK _ _ rfl (Below.refl _ _) rfl)⟩), stG (fun u w3 hC hd => ⟨rfl, fun Q K hK => by (have hu := bis (w := w3) (hd 21 rfl); rw [hu] at hK ⊢; clear hu; go_step; exact hK _ _ rfl (Below.refl _ _) rfl)⟩), trivial⟩); intro u wz hb_wz hF; rw [bis (w := wz) (hF 0 (by decide))]; rw [bis (w := wz) (hF 1 (by decide))]; rw [bis (w := wz) (hF 2 (by decide))]; rw [bis (w := wz) (hF 3 (by decide))]; generalize u 4 = vx4 at *; rw [bis (w := wz) (hF 5 (by decide))]; rw [bis (w := wz) (hF 6 (by decide))]; rw [bis (w := wz) (hF 7 (by decide))]; generalize u 8 = vx8 at *; rw [bis (w := wz) (hF 9 (by decide))]; rw [bis (w := wz) (hF 10 (by decide))]; rw [bis (w := wz) (hF 11 (by decide))]; rw [bis (w := wz) (hF 12 (by decide))]; rw [bis (w := wz) (hF 13 (by decide))]; rw [bis (w := wz) (hF 14 (by decide))]; rw [bis (w := wz) (hF 15 (by decide))]; generalize u 16 = vx16 at *; rw [bis (w := wz) (hF 17 (by decide))]; rw [bis (w := wz) (hF 18 (by decide))]; generalize u 19 = vx19 at *; rw [bis (w := wz) (hF 20 (by decide))]; rw [bis (w := wz) (hF 21 (by decide))]; rw [bis (w := wz) (hF 22 (by decide))]; clear hF
      have hw_wz := hw_W.trans (hb_wz.mono hw_W.size)
      clear hw_W
      replace HS := Lib.hid (HS.out.below hb_wz)
      replace HT := Lib.hid (HT.out.below hb_wz)
      replace HA := Lib.hid (HA.out.below hb_wz)
      replace HB := Lib.hid (HB.out.below hb_wz)
      replace HP := Lib.hid (Box4.bel HP.out hb_wz)
      go_wp2
      go_ret
      exact ⟨rfl, hw_wz⟩
end Go.Proofs.YtojafgooobpoiaaDoor
