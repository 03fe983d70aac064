/- The law FnByHits: the walk. -/
import Derived.Test.YtibanpeiigbofaaDoorLdBH
import Derived.Test.YtibanpeiigbofaaDoorDxAJ
import Derived.Test.YtibanpeiigbofaaDoorFmK
import Derived.Test.YtibanpeiigbofaaDoorRgH
namespace Go.Proofs.YtibanpeiigbofaaDoor
open Go.RowKit
theorem wp_make_full1 {P : Program} (w : World) {o : Oper} {a : Act} {Q : Exit → Act → World → Prop} {K : Act → World → Prop}
    (l c : Operand) (t : TypeId) (hop : o.op = Op.makeSlice t l c)
    (base : Nat) (e : TypeId) (i : TypeInfo) (z : Value) (size : Nat) (h1 : P.underlying t = some (.slice e)) (h2 : P.info? e = some i) (h3 : i.zero = some z) (h4 : i.size = size)
    (kl kc : IntKind) (L C : Int) (n : Nat) (hl : a.eval l = .int kl L) (hc : a.eval c = .int kc C) (hL : L = (n : Int)) (hC : C = (n : Int)) (b2 : i.bytes * n ≤ 281474976710656) (b3 : n ≤ maxLen) (b4 : base ≤ w.heap.size)
    (hK : ∀ w', w'.ownsRow base e size (.slice (some ⟨w.heap.size, 0, none⟩) n n) n (madeCells z.cells (n * size)).toList → w.grownBy w' none → K (a.put o.dst (.slice (some ⟨w.heap.size, 0, none⟩) n n)) w') :
    o.wp P a w K Q := by
  obtain ⟨w', hrun, r1, r2⟩ := run_make_full (P := P) w base t e i z size h1 h2 h3 h4 kl kc n b2 b3 b4
  subst hL
  subst hC
  unfold Oper.wp
  simp [execOp, hop, hl, hc, hrun, Result.andThen]
  exact hK w' r1 r2
set_option maxHeartbeats 4000000 in
set_option maxRecDepth 100000 in
theorem law_FnByHits (bs bs2 : List Int) (v v2 : Value) (w : World) (h : CodeAt w v bs) (h2 : CodeAt w v2 bs2) (ht : Tab w) :
    Calls Tryd.prog 9 #[v, v2] w fun e w' => e = .returned (.bool true) ∧ Below w.heap.size w w' := by
  obtain ⟨a, cap, rfl, l1, l2, -⟩ := code_cells h
  obtain ⟨a2, cap2, rfl, m1, m2, -⟩ := code_cells h2
  unfold maxLen at l2 m2
  by_cases hl : 1048576 < bs.length
  · go_enter Tryd.func9, Tryd.ntmps9
    go_wp2
    go_ret
    exact ⟨rfl, by (repeat' (first | with_reducible exact Below.refl _ _ | with_reducible assumption | with_reducible refine Below.setCell ?_ ?_ _ | with_reducible refine Below.alloc ?_ ?_ _ | with_reducible refine Below.drew ?_ | with_reducible refine belDrewN ?_ _ | with_reducible refine Below.trans ?_ (Below.mono (by assumption) ?_) | omega | (simp; omega) | (simp; done)))⟩
  by_cases hl2 : 1048576 < bs2.length
  · go_enter Tryd.func9, Tryd.ntmps9
    go_wp2
    go_ret
    exact ⟨rfl, by (repeat' (first | with_reducible exact Below.refl _ _ | with_reducible assumption | with_reducible refine Below.setCell ?_ ?_ _ | with_reducible refine Below.alloc ?_ ?_ _ | with_reducible refine Below.drew ?_ | with_reducible refine belDrewN ?_ _ | with_reducible refine Below.trans ?_ (Below.mono (by assumption) ?_) | omega | (simp; omega) | (simp; done)))⟩
  have hsd : bs2.length ≤ 1048576 := by omega
  generalize bs2.length = sd at *
  go_enter Tryd.func9, Tryd.ntmps9
  go_wp2_with fail
  refine (drawBH_any _ _ _ h).mono ?_
  rintro e w1 ⟨v0, u0, fs, cs, rfl, ⟨ho, hlen, hok, hb_w1⟩, hu0⟩
  have hw_w1 := hb_w1
  have HS := Lib.hid (ho.fts.mono (Nat.zero_le _))
  have HT := Lib.hid (ht.below hb_w1)
  have HOK := Lib.hid hok
  have HFN := Lib.hid (drawn_ftN hlen hok)
  clear hb_w1 ho hok h
  obtain ⟨sa, sc, rfl, hlc_sa, hcm_sa⟩ := HS.out.form
  unfold maxLen at hcm_sa
  have HU := Lib.hid (hu0)
  clear hu0
  obtain ⟨R, hR⟩ : ∃ R, byh fs cs = R := ⟨_, rfl⟩
  have HR := Lib.hid hR
  clear hR
  go_wp2_with fail
  refine (implByHits_e HS.out HU.out HT.out HR.out).mono ?_
  rintro e w2 ⟨v2, rfl, ho, hb_w2⟩
  have hw_w2 := hw_w1.trans (hb_w2.mono hw_w1.size)
  clear hw_w1
  replace HS := Lib.hid (HS.out.below hb_w2)
  replace HT := Lib.hid (HT.out.below hb_w2)
  replace HU := Lib.hid (HU.out.below hb_w2)
  have HX := Lib.hid (ho.fts)
  clear hb_w2 ho
  obtain ⟨xa, xc, rfl, hlc_xa, hcm_xa⟩ := HX.out.form
  unfold maxLen at hcm_xa
  go_wp2_with fail
  refine (specByHits_e HS.out HU.out HFN.out HR.out).mono ?_
  rintro e w3 ⟨v3, rfl, ho, hb_w3⟩
  have hw_w3 := hw_w2.trans (hb_w3.mono hw_w2.size)
  clear hw_w2
  replace HS := Lib.hid (HS.out.below hb_w3)
  replace HT := Lib.hid (HT.out.below hb_w3)
  replace HU := Lib.hid (HU.out.below hb_w3)
  replace HX := Lib.hid (HX.out.below hb_w3)
  have HY := Lib.hid (ho)
  clear hb_w3 ho
  obtain ⟨ya, yc, rfl, hlc_ya, hcm_ya⟩ := HY.out.form
  unfold maxLen at hcm_ya
  go_wp2_with fail
  refine (sameFlats_e HX.out HY.out).mono ?_
  rintro e w4 ⟨rfl, hb_w4⟩
  have hw_w4 := hw_w3.trans (hb_w4.mono hw_w3.size)
  clear hw_w3
  replace HS := Lib.hid (HS.out.below hb_w4)
  replace HT := Lib.hid (HT.out.below hb_w4)
  replace HU := Lib.hid (HU.out.below hb_w4)
  replace HX := Lib.hid (HX.out.below hb_w4)
  replace HY := Lib.hid (HY.out.below hb_w4)
  clear hb_w4 
  clear HY
  clear HU
  rcases byh_cases fs cs with hR0 | ⟨hv, hln, hjf⟩
  · obtain rfl : R = [] := by rw [← HR.out, hR0]
    clear hR0
    go_wp2_with fail
    refine (alive_any _).mono ?_
    rintro e w5 ⟨rfl, hb_w5⟩
    have hw_w5 := hw_w4.trans (hb_w5.mono hw_w4.size)
    clear hw_w4
    replace HS := Lib.hid (HS.out.below hb_w5)
    replace HT := Lib.hid (HT.out.below hb_w5)
    replace HX := Lib.hid (HX.out.below hb_w5)
    clear hb_w5 
    go_wp2
    go_ret
    exact ⟨rfl, hw_w5⟩
  · rw [HR.out] at hln hjf
    have HZ := Lib.hid (byh_zero hv)
    by_cases hR0 : R = []
    · subst hR0
      clear hln hjf
      go_wp2_with fail
      refine (alive_any _).mono ?_
      rintro e w6 ⟨rfl, hb_w6⟩
      have hw_w6 := hw_w4.trans (hb_w6.mono hw_w4.size)
      clear hw_w4
      replace HS := Lib.hid (HS.out.below hb_w6)
      replace HT := Lib.hid (HT.out.below hb_w6)
      replace HX := Lib.hid (HX.out.below hb_w6)
      clear hb_w6 
      go_wp2
      go_ret
      exact ⟨rfl, hw_w6⟩
    · have hpos := List.length_pos_iff.2 hR0
      clear hR0
      rw [hln] at HX hpos hlc_xa ⊢
      have hne0 : ((fs.length : Int) == 0) = false := beq_eq_false_iff_ne.2 (by omega)
      clear hln
      obtain ⟨rb, hrb⟩ : ∃ rb : Bool, (((sd : Int) % 2) == 0) = rb := ⟨_, rfl⟩
      have hpb : ∀ (k' : Nat) b', (fbx fs)[k']? = some b' → b'.length ≤ 100 ∧ ∀ (j : Nat) xs, b'[j]? = some xs → xs.length ≤ 1000 := fun k' b' hb' => by
        rw [fbx, hv] at hb'
        simp only [if_true, fboxes, List.getElem?_map, Option.map_eq_some_iff] at hb'
        obtain ⟨f, hf, rfl⟩ := hb'
        exact ⟨by have := (HOK.out k' f hf).1; omega, fun j xs hx => by have := (HOK.out k' f hf).2 j xs hx; omega⟩
      have hpl : (fbx fs).length ≤ 100 := by
        rw [fbx, hv]; simp [fboxes]; omega
      have HPB := Lib.hid hpb
      have HPL := Lib.hid hpl
      clear hpb hpl
      go_wp2_with fail
      refine (implFB_any fs _ _ HS.out HT.out).mono ?_
      rintro e w7 ⟨v4, rfl, hx4, hb_w7⟩
      have hw_w7 := hw_w4.trans (hb_w7.mono hw_w4.size)
      clear hw_w4
      replace HS := Lib.hid (HS.out.below hb_w7)
      replace HT := Lib.hid (HT.out.below hb_w7)
      replace HX := Lib.hid (HX.out.below hb_w7)
      have HFB := Lib.hid (hx4)
      clear hb_w7 hx4
      go_wp2_with fail
      refine (probe_any (fbx fs) v4 sd _ HFB.out hsd HPL.out HPB.out).mono ?_
      rintro e w8 ⟨⟨pa, pb, pc, pd⟩, rfl, hb_w8⟩
      have hw_w8 := hw_w7.trans (hb_w8.mono hw_w7.size)
      clear hw_w7
      replace HS := Lib.hid (HS.out.below hb_w8)
      replace HT := Lib.hid (HT.out.below hb_w8)
      replace HX := Lib.hid (HX.out.below hb_w8)
      replace HFB := Lib.hid (HFB.out.below hb_w8)
      clear hb_w8 
      clear HFB
      obtain ⟨W, hW⟩ : ∃ W, w8.alloc (.cells #[.int .i64 pa, .int .i64 pb, .int .i64 pc, .int .i64 pd] 39) = W := ⟨_, rfl⟩
      have hal : Below w8.heap.size w8 W := by rw [← hW]; exact (Below.refl _ _).alloc (Nat.le_refl _) _
      have hbx : Box4 W w8.heap.size pa pb pc pd := by rw [← hW]; exact Box4.new w8 pa pb pc pd _
      have hw_W := hw_w8.trans (hal.mono hw_w8.size)
      clear hw_w8
      replace HS := Lib.hid (HS.out.below hal)
      replace HT := Lib.hid (HT.out.below hal)
      replace HX := Lib.hid (HX.out.below hal)
      have HP := Lib.hid (hbx)
      clear hal hbx
      obtain ⟨jq, hj1⟩ : ∃ jq, jfl R rb ⟨pa, pb, pc, pd⟩ = jq := ⟨_, rfl⟩
      have hj2 : jfl fs rb ⟨pa, pb, pc, pd⟩ = jq := by rw [← hj1, hjf]
      clear hjf HPB HPL
      have HJ1 := Lib.hid hj1
      have HJ2 := Lib.hid hj2
      clear hj1 hj2
      generalize fs.length = n at *
      have hn61 : n ≤ 61 := by omega
      obtain ⟨i0, hi, hz0, hz1, hz2⟩ := info_parts infoInt
      cases jq
      · obtain ⟨zl, z0, z1, z2, z3, zf⟩ := HP.out
        go_wp2_with fail
        (refine wp_region_belG (W := W) [BIs (.slice xa n xc), BIs (.bool rb), BIs (.agg #[.int .i64 pa, .int .i64 pb, .int .i64 pc, .int .i64 pd]), (BIs (.bool false)), BIs (.slice sa n sc), BIs (.bool rb), BIs (.agg #[.int .i64 pa, .int .i64 pb, .int .i64 pc, .int .i64 pd]), (BIs (.bool false)), BIs (.bool true), BIs (.bool true), BIs (.slice xa n xc), BIs (.int .i64 (n : Int)), BIs (.slice sa n sc), BIs (.int .i64 (n : Int)), BIs (.bool true), BIs (.bool true), BIs (.bool true), BIs (.slice sa n sc), BIs (.slice sa n sc), BIs (.int .i64 (n : Int)), (fun w v => Ins w v (List.replicate n (0 : Int))), (fun w v => Fts 0 w v fs), BIs (.slice sa n sc), (BIs (.bool true)), BIs (.bool true), BIs (.bool true)] (by kernel_rfl) (fun u => by simp only [frU, Act.put, List.setIfInBounds_toArray, List.set_cons_succ, List.set_cons_zero, Nat.zero_add, Nat.reduceAdd]; exact rfl) (by kernel_rfl) ⟨bst_is _, bst_is _, bst_is _, (bst_is _), bst_is _, bst_is _, bst_is _, (bst_is _), bst_is _, bst_is _, bst_is _, bst_is _, bst_is _, bst_is _, bst_is _, bst_is _, bst_is _, bst_is _, bst_is _, bst_is _, (fun _ _ _ hb h => h.below hb), (fun _ _ _ hb h => h.below hb), bst_is _, (bst_is _), bst_is _, bst_is _, trivial⟩ ?_ ?_; exact ⟨stG (fun u w3 hC hd => ⟨rfl, fun Q K hK => by (go_step; exact hK _ _ rfl (Below.refl _ _) rfl)⟩), stG (fun u w3 hC hd => ⟨rfl, fun Q K hK => by (go_step; exact hK _ _ rfl (Below.refl _ _) rfl)⟩), stG (fun u w3 hC hd => ⟨rfl, fun Q K hK => by (have e0 := (hC.cell (p := ⟨w8.heap.size, 0, none⟩) zl).trans z0; have e1 := (hC.cell (p := ⟨w8.heap.size, 1, none⟩) zl).trans z1; have e2 := (hC.cell (p := ⟨w8.heap.size, 2, none⟩) zl).trans z2; have e3 := (hC.cell (p := ⟨w8.heap.size, 3, none⟩) zl).trans z3; go_step; exact hK _ _ rfl (Below.refl _ _) rfl)⟩), stG (fun u w3 hC hd => ⟨rfl, fun Q K hK => by (have hu := bis (w := w3) (hd 0 rfl); rw [hu] at hK ⊢; clear hu; have hu := bis (w := w3) (hd 1 rfl); rw [hu] at hK ⊢; clear hu; have hu := bis (w := w3) (hd 2 rfl); rw [hu] at hK ⊢; clear hu; go_step; refine (implJF_b (HX.out.below hC) (HT.out.below hC) HJ1.out).mono ?_; rintro e w4 ⟨rfl, hb4⟩; exact hK _ _ rfl hb4 rfl)⟩), stG (fun u w3 hC hd => ⟨rfl, fun Q K hK => by (go_step; exact hK _ _ rfl (Below.refl _ _) rfl)⟩), stG (fun u w3 hC hd => ⟨rfl, fun Q K hK => by (go_step; exact hK _ _ rfl (Below.refl _ _) rfl)⟩), stG (fun u w3 hC hd => ⟨rfl, fun Q K hK => by (have e0 := (hC.cell (p := ⟨w8.heap.size, 0, none⟩) zl).trans z0; have e1 := (hC.cell (p := ⟨w8.heap.size, 1, none⟩) zl).trans z1; have e2 := (hC.cell (p := ⟨w8.heap.size, 2, none⟩) zl).trans z2; have e3 := (hC.cell (p := ⟨w8.heap.size, 3, none⟩) zl).trans z3; go_step; exact hK _ _ rfl (Below.refl _ _) rfl)⟩), stG (fun u w3 hC hd => ⟨rfl, fun Q K hK => by (have hu := bis (w := w3) (hd 4 rfl); rw [hu] at hK ⊢; clear hu; have hu := bis (w := w3) (hd 5 rfl); rw [hu] at hK ⊢; clear hu; have hu := bis (w := w3) (hd 6 rfl); rw [hu] at hK ⊢; clear hu; go_step; refine (implJF_b (HS.out.below hC) (HT.out.below hC) HJ2.out).mono ?_; rintro e w4 ⟨rfl, hb4⟩; exact hK _ _ rfl hb4 rfl)⟩), stG (fun u w3 hC hd => ⟨rfl, fun Q K hK => by (have hu := bis (w := w3) (hd 3 rfl); rw [hu] at hK ⊢; clear hu; have hu := bis (w := w3) (hd 7 rfl); rw [hu] at hK ⊢; clear hu; go_step; exact hK _ _ rfl (Below.refl _ _) rfl)⟩), stG (fun u w3 hC hd => ⟨rfl, fun Q K hK => by (have hu := bis (w := w3) (hd 8 rfl); rw [hu] at hK ⊢; clear hu; go_step; exact hK _ _ rfl (Below.refl _ _) rfl)⟩), stG (fun u w3 hC hd => ⟨by (have hu := bis (w := w3) (hd 9 rfl); rw [hu]; rfl), fun Q K hK => by (go_step; exact hK _ _ rfl (Below.refl _ _) rfl)⟩), stG (fun u w3 hC hd => ⟨by (have hu := bis (w := w3) (hd 9 rfl); rw [hu]; rfl), fun Q K hK => by (have hu := bis (w := w3) (hd 10 rfl); rw [hu] at hK ⊢; clear hu; go_step; exact hK _ _ rfl (Below.refl _ _) rfl)⟩), stG (fun u w3 hC hd => ⟨by (have hu := bis (w := w3) (hd 9 rfl); rw [hu]; rfl), fun Q K hK => by (go_step; exact hK _ _ rfl (Below.refl _ _) rfl)⟩), stG (fun u w3 hC hd => ⟨by (have hu := bis (w := w3) (hd 9 rfl); rw [hu]; rfl), fun Q K hK => by (have hu := bis (w := w3) (hd 12 rfl); rw [hu] at hK ⊢; clear hu; go_step; exact hK _ _ rfl (Below.refl _ _) rfl)⟩), stG (fun u w3 hC hd => ⟨by (have hu := bis (w := w3) (hd 9 rfl); rw [hu]; rfl), fun Q K hK => by (have hu := bis (w := w3) (hd 11 rfl); rw [hu] at hK ⊢; clear hu; have hu := bis (w := w3) (hd 13 rfl); rw [hu] at hK ⊢; clear hu; go_step; exact hK _ _ rfl (Below.refl _ _) rfl)⟩), stG (fun u w3 hC hd => ⟨rfl, fun Q K hK => by (have hu := bis (w := w3) (hd 9 rfl); rw [hu] at hK ⊢; clear hu; have hu := bis (w := w3) (hd 14 rfl); rw [hu] at hK ⊢; clear hu; go_step; exact hK _ _ rfl (Below.refl _ _) rfl)⟩), stG (fun u w3 hC hd => ⟨rfl, fun Q K hK => by (have hu := bis (w := w3) (hd 15 rfl); rw [hu] at hK ⊢; clear hu; go_step; exact hK _ _ rfl (Below.refl _ _) rfl)⟩), stG (fun u w3 hC hd => ⟨by (have hu := bis (w := w3) (hd 16 rfl); rw [hu]; rfl), fun Q K hK => by (go_step; exact hK _ _ rfl (Below.refl _ _) rfl)⟩), stG (fun u w3 hC hd => ⟨by (have hu := bis (w := w3) (hd 16 rfl); rw [hu]; rfl), fun Q K hK => by (go_step; exact hK _ _ rfl (Below.refl _ _) rfl)⟩), stG (fun u w3 hC hd => ⟨by (have hu := bis (w := w3) (hd 16 rfl); rw [hu]; rfl), fun Q K hK => by (have hu := bis (w := w3) (hd 18 rfl); rw [hu] at hK ⊢; clear hu; go_step; exact hK _ _ rfl (Below.refl _ _) rfl)⟩), stG (fun u w3 hC hd => ⟨by (have hu := bis (w := w3) (hd 16 rfl); rw [hu]; rfl), fun Q K hK => by (have hu := bis (w := w3) (hd 19 rfl); rw [hu] at hK ⊢; clear hu; (refine wp_make_full1 w3 _ _ 47 rfl w3.heap.size 3 i0 _ 1 Tryd.underlying47 hi hz0 hz1 .i64 .i64 (n : Int) (n : Int) n rfl rfl rfl rfl (by rw [hz2]; omega) (by simp only [maxLen]; omega) (Nat.le_refl _) (fun w5 hown5 hgr5 => hK _ _ rfl ((Below.refl _ _).grown hgr5 (Nat.le_refl _) (fun k hk => by cases hk)) (OwnIn.ins (show OwnIn w3.heap.size w5 (.slice (some ⟨w3.heap.size, 0, none⟩) n n) (List.replicate n (0 : Int)) from by unfold OwnIn OwnSl; rw [List.length_replicate, ← madeFlat (sz := 1) (enc := encI) (fun _ => rfl) (by omega) (.int .i64 0) (0 : Int) rfl]; rw [Nat.mul_one] at hown5 ⊢; exact hown5)))))⟩), stG (fun u w3 hC hd => ⟨by (have hu := bis (w := w3) (hd 16 rfl); rw [hu]; rfl), fun Q K hK => by (have hu := bis (w := w3) (hd 17 rfl); rw [hu] at hK ⊢; clear hu; have hz9 := hd 20 rfl; generalize u 20 = z9 at *; go_step; refine (implByHits_e (HS.out.below hC) hz9 (HT.out.below hC) HZ.out).mono ?_; rintro e w4 ⟨z4, rfl, ho4, hb4⟩; exact hK _ _ rfl hb4 (ho4.fts.mono (Nat.zero_le _)))⟩), stG (fun u w3 hC hd => ⟨by (have hu := bis (w := w3) (hd 16 rfl); rw [hu]; rfl), fun Q K hK => by (go_step; exact hK _ _ rfl (Below.refl _ _) rfl)⟩), stG (fun u w3 hC hd => ⟨by (have hu := bis (w := w3) (hd 16 rfl); rw [hu]; rfl), fun Q K hK => by (have hz8 := hd 21 rfl; generalize u 21 = z8 at *; have hu := bis (w := w3) (hd 22 rfl); rw [hu] at hK ⊢; clear hu; go_step; refine (sameFlats_e hz8 (HS.out.below hC)).mono ?_; rintro e w4 ⟨rfl, hb4⟩; exact hK _ _ rfl hb4 rfl)⟩), stG (fun u w3 hC hd => ⟨rfl, fun Q K hK => by (have hu := bis (w := w3) (hd 16 rfl); rw [hu] at hK ⊢; clear hu; have hu := bis (w := w3) (hd 23 rfl); rw [hu] at hK ⊢; clear hu; go_step; exact hK _ _ rfl (Below.refl _ _) rfl)⟩), stG (fun u w3 hC hd => ⟨rfl, fun Q K hK => by (have hu := bis (w := w3) (hd 24 rfl); rw [hu] at hK ⊢; clear hu; go_step; exact hK _ _ rfl (Below.refl _ _) rfl)⟩), trivial⟩); intro u wz hb_wz hF; rw [bis (w := wz) (hF 0 (by decide))]; rw [bis (w := wz) (hF 1 (by decide))]; rw [bis (w := wz) (hF 2 (by decide))]; generalize u 3 = vx3 at *; rw [bis (w := wz) (hF 4 (by decide))]; rw [bis (w := wz) (hF 5 (by decide))]; rw [bis (w := wz) (hF 6 (by decide))]; generalize u 7 = vx7 at *; rw [bis (w := wz) (hF 8 (by decide))]; rw [bis (w := wz) (hF 9 (by decide))]; rw [bis (w := wz) (hF 10 (by decide))]; rw [bis (w := wz) (hF 11 (by decide))]; rw [bis (w := wz) (hF 12 (by decide))]; rw [bis (w := wz) (hF 13 (by decide))]; rw [bis (w := wz) (hF 14 (by decide))]; rw [bis (w := wz) (hF 15 (by decide))]; rw [bis (w := wz) (hF 16 (by decide))]; rw [bis (w := wz) (hF 17 (by decide))]; rw [bis (w := wz) (hF 18 (by decide))]; rw [bis (w := wz) (hF 19 (by decide))]; generalize u 20 = vx20 at *; generalize u 21 = vx21 at *; rw [bis (w := wz) (hF 22 (by decide))]; generalize u 23 = vx23 at *; rw [bis (w := wz) (hF 24 (by decide))]; rw [bis (w := wz) (hF 25 (by decide))]; clear hF
        have hw_wz := hw_W.trans (hb_wz.mono hw_W.size)
        clear hw_W
        replace HS := Lib.hid (HS.out.below hb_wz)
        replace HT := Lib.hid (HT.out.below hb_wz)
        replace HX := Lib.hid (HX.out.below hb_wz)
        replace HP := Lib.hid (Box4.bel HP.out hb_wz)
        go_wp2
        go_ret
        exact ⟨rfl, hw_wz⟩
      · obtain ⟨zl, z0, z1, z2, z3, zf⟩ := HP.out
        go_wp2_with fail
        (refine wp_region_belG (W := W) [BIs (.slice xa n xc), BIs (.bool rb), BIs (.agg #[.int .i64 pa, .int .i64 pb, .int .i64 pc, .int .i64 pd]), (BIs (.bool true)), BIs (.slice sa n sc), BIs (.bool rb), BIs (.agg #[.int .i64 pa, .int .i64 pb, .int .i64 pc, .int .i64 pd]), (BIs (.bool true)), BIs (.bool true), BIs (.bool true), BIs (.slice xa n xc), BIs (.int .i64 (n : Int)), BIs (.slice sa n sc), BIs (.int .i64 (n : Int)), BIs (.bool true), BIs (.bool true), BIs (.bool true), BIs (.slice sa n sc), BIs (.slice sa n sc), BIs (.int .i64 (n : Int)), (fun w v => Ins w v (List.replicate n (0 : Int))), (fun w v => Fts 0 w v fs), BIs (.slice sa n sc), (BIs (.bool true)), BIs (.bool true), BIs (.bool true)] (by kernel_rfl) (fun u => by simp only [frU, Act.put, List.setIfInBounds_toArray, List.set_cons_succ, List.set_cons_zero, Nat.zero_add, Nat.reduceAdd]; exact rfl) (by kernel_rfl) ⟨bst_is _, bst_is _, bst_is _, (bst_is _), bst_is _, bst_is _, bst_is _, (bst_is _), bst_is _, bst_is _, bst_is _, bst_is _, bst_is _, bst_is _, bst_is _, bst_is _, bst_is _, bst_is _, bst_is _, bst_is _, (fun _ _ _ hb h => h.below hb), (fun _ _ _ hb h => h.below hb), bst_is _, (bst_is _), bst_is _, bst_is _, trivial⟩ ?_ ?_; exact ⟨stG (fun u w3 hC hd => ⟨rfl, fun Q K hK => by (go_step; exact hK _ _ rfl (Below.refl _ _) rfl)⟩), stG (fun u w3 hC hd => ⟨rfl, fun Q K hK => by (go_step; exact hK _ _ rfl (Below.refl _ _) rfl)⟩), stG (fun u w3 hC hd => ⟨rfl, fun Q K hK => by (have e0 := (hC.cell (p := ⟨w8.heap.size, 0, none⟩) zl).trans z0; have e1 := (hC.cell (p := ⟨w8.heap.size, 1, none⟩) zl).trans z1; have e2 := (hC.cell (p := ⟨w8.heap.size, 2, none⟩) zl).trans z2; have e3 := (hC.cell (p := ⟨w8.heap.size, 3, none⟩) zl).trans z3; go_step; exact hK _ _ rfl (Below.refl _ _) rfl)⟩), stG (fun u w3 hC hd => ⟨rfl, fun Q K hK => by (have hu := bis (w := w3) (hd 0 rfl); rw [hu] at hK ⊢; clear hu; have hu := bis (w := w3) (hd 1 rfl); rw [hu] at hK ⊢; clear hu; have hu := bis (w := w3) (hd 2 rfl); rw [hu] at hK ⊢; clear hu; go_step; refine (implJF_b (HX.out.below hC) (HT.out.below hC) HJ1.out).mono ?_; rintro e w4 ⟨rfl, hb4⟩; exact hK _ _ rfl hb4 rfl)⟩), stG (fun u w3 hC hd => ⟨rfl, fun Q K hK => by (go_step; exact hK _ _ rfl (Below.refl _ _) rfl)⟩), stG (fun u w3 hC hd => ⟨rfl, fun Q K hK => by (go_step; exact hK _ _ rfl (Below.refl _ _) rfl)⟩), stG (fun u w3 hC hd => ⟨rfl, fun Q K hK => by (have e0 := (hC.cell (p := ⟨w8.heap.size, 0, none⟩) zl).trans z0; have e1 := (hC.cell (p := ⟨w8.heap.size, 1, none⟩) zl).trans z1; have e2 := (hC.cell (p := ⟨w8.heap.size, 2, none⟩) zl).trans z2; have e3 := (hC.cell (p := ⟨w8.heap.size, 3, none⟩) zl).trans z3; go_step; exact hK _ _ rfl (Below.refl _ _) rfl)⟩), stG (fun u w3 hC hd => ⟨rfl, fun Q K hK => by (have hu := bis (w := w3) (hd 4 rfl); rw [hu] at hK ⊢; clear hu; have hu := bis (w := w3) (hd 5 rfl); rw [hu] at hK ⊢; clear hu; have hu := bis (w := w3) (hd 6 rfl); rw [hu] at hK ⊢; clear hu; go_step; refine (implJF_b (HS.out.below hC) (HT.out.below hC) HJ2.out).mono ?_; rintro e w4 ⟨rfl, hb4⟩; exact hK _ _ rfl hb4 rfl)⟩), stG (fun u w3 hC hd => ⟨rfl, fun Q K hK => by (have hu := bis (w := w3) (hd 3 rfl); rw [hu] at hK ⊢; clear hu; have hu := bis (w := w3) (hd 7 rfl); rw [hu] at hK ⊢; clear hu; go_step; exact hK _ _ rfl (Below.refl _ _) rfl)⟩), stG (fun u w3 hC hd => ⟨rfl, fun Q K hK => by (have hu := bis (w := w3) (hd 8 rfl); rw [hu] at hK ⊢; clear hu; go_step; exact hK _ _ rfl (Below.refl _ _) rfl)⟩), stG (fun u w3 hC hd => ⟨by (have hu := bis (w := w3) (hd 9 rfl); rw [hu]; rfl), fun Q K hK => by (go_step; exact hK _ _ rfl (Below.refl _ _) rfl)⟩), stG (fun u w3 hC hd => ⟨by (have hu := bis (w := w3) (hd 9 rfl); rw [hu]; rfl), fun Q K hK => by (have hu := bis (w := w3) (hd 10 rfl); rw [hu] at hK ⊢; clear hu; go_step; exact hK _ _ rfl (Below.refl _ _) rfl)⟩), stG (fun u w3 hC hd => ⟨by (have hu := bis (w := w3) (hd 9 rfl); rw [hu]; rfl), fun Q K hK => by (go_step; exact hK _ _ rfl (Below.refl _ _) rfl)⟩), stG (fun u w3 hC hd => ⟨by (have hu := bis (w := w3) (hd 9 rfl); rw [hu]; rfl), fun Q K hK => by (have hu := bis (w := w3) (hd 12 rfl); rw [hu] at hK ⊢; clear hu; go_step; exact hK _ _ rfl (Below.refl _ _) rfl)⟩), stG (fun u w3 hC hd => ⟨by (have hu := bis (w := w3) (hd 9 rfl); rw [hu]; rfl), fun Q K hK => by (have hu := bis (w := w3) (hd 11 rfl); rw [hu] at hK ⊢; clear hu; have hu := bis (w := w3) (hd 13 rfl); rw [hu] at hK ⊢; clear hu; go_step; exact hK _ _ rfl (Below.refl _ _) rfl)⟩), stG (fun u w3 hC hd => ⟨rfl, fun Q K hK => by (have hu := bis (w := w3) (hd 9 rfl); rw [hu] at hK ⊢; clear hu; have hu := bis (w := w3) (hd 14 rfl); rw [hu] at hK ⊢; clear hu; go_step; exact hK _ _ rfl (Below.refl _ _) rfl)⟩), stG (fun u w3 hC hd => ⟨rfl, fun Q K hK => by (have hu := bis (w := w3) (hd 15 rfl); rw [hu] at hK ⊢; clear hu; go_step; exact hK _ _ rfl (Below.refl _ _) rfl)⟩), stG (fun u w3 hC hd => ⟨by (have hu := bis (w := w3) (hd 16 rfl); rw [hu]; rfl), fun Q K hK => by (go_step; exact hK _ _ rfl (Below.refl _ _) rfl)⟩), stG (fun u w3 hC hd => ⟨by (have hu := bis (w := w3) (hd 16 rfl); rw [hu]; rfl), fun Q K hK => by (go_step; exact hK _ _ rfl (Below.refl _ _) rfl)⟩), stG (fun u w3 hC hd => ⟨by (have hu := bis (w := w3) (hd 16 rfl); rw [hu]; rfl), fun Q K hK => by (have hu := bis (w := w3) (hd 18 rfl); rw [hu] at hK ⊢; clear hu; go_step; exact hK _ _ rfl (Below.refl _ _) rfl)⟩), stG (fun u w3 hC hd => ⟨by (have hu := bis (w := w3) (hd 16 rfl); rw [hu]; rfl), fun Q K hK => by (have hu := bis (w := w3) (hd 19 rfl); rw [hu] at hK ⊢; clear hu; (refine wp_make_full1 w3 _ _ 47 rfl w3.heap.size 3 i0 _ 1 Tryd.underlying47 hi hz0 hz1 .i64 .i64 (n : Int) (n : Int) n rfl rfl rfl rfl (by rw [hz2]; omega) (by simp only [maxLen]; omega) (Nat.le_refl _) (fun w5 hown5 hgr5 => hK _ _ rfl ((Below.refl _ _).grown hgr5 (Nat.le_refl _) (fun k hk => by cases hk)) (OwnIn.ins (show OwnIn w3.heap.size w5 (.slice (some ⟨w3.heap.size, 0, none⟩) n n) (List.replicate n (0 : Int)) from by unfold OwnIn OwnSl; rw [List.length_replicate, ← madeFlat (sz := 1) (enc := encI) (fun _ => rfl) (by omega) (.int .i64 0) (0 : Int) rfl]; rw [Nat.mul_one] at hown5 ⊢; exact hown5)))))⟩), stG (fun u w3 hC hd => ⟨by (have hu := bis (w := w3) (hd 16 rfl); rw [hu]; rfl), fun Q K hK => by (have hu := bis (w := w3) (hd 17 rfl); rw [hu] at hK ⊢; clear hu; have hz9 := hd 20 rfl; generalize u 20 = z9 at *; go_step; refine (implByHits_e (HS.out.below hC) hz9 (HT.out.below hC) HZ.out).mono ?_; rintro e w4 ⟨z4, rfl, ho4, hb4⟩; exact hK _ _ rfl hb4 (ho4.fts.mono (Nat.zero_le _)))⟩), stG (fun u w3 hC hd => ⟨by (have hu := bis (w := w3) (hd 16 rfl); rw [hu]; rfl), fun Q K hK => by (go_step; exact hK _ _ rfl (Below.refl _ _) rfl)⟩), stG (fun u w3 hC hd => ⟨by (have hu := bis (w := w3) (hd 16 rfl); rw [hu]; rfl), fun Q K hK => by (have hz8 := hd 21 rfl; generalize u 21 = z8 at *; have hu := bis (w := w3) (hd 22 rfl); rw [hu] at hK ⊢; clear hu; go_step; refine (sameFlats_e hz8 (HS.out.below hC)).mono ?_; rintro e w4 ⟨rfl, hb4⟩; exact hK _ _ rfl hb4 rfl)⟩), stG (fun u w3 hC hd => ⟨rfl, fun Q K hK => by (have hu := bis (w := w3) (hd 16 rfl); rw [hu] at hK ⊢; clear hu; have hu := bis (w := w3) (hd 23 rfl); rw [hu] at hK ⊢; clear hu; go_step; exact hK _ _ rfl (Below.refl _ _) rfl)⟩), stG (fun u w3 hC hd => ⟨rfl, fun Q K hK => by (have hu := bis (w := w3) (hd 24 rfl); rw [hu] at hK ⊢; clear hu; go_step; exact hK _ _ rfl (Below.refl _ _) rfl)⟩), trivial⟩); intro u wz hb_wz hF; rw [bis (w := wz) (hF 0 (by decide))]; rw [bis (w := wz) (hF 1 (by decide))]; rw [bis (w := wz) (hF 2 (by decide))]; generalize u 3 = vx3 at *; rw [bis (w := wz) (hF 4 (by decide))]; rw [bis (w := wz) (hF 5 (by decide))]; rw [bis (w := wz) (hF 6 (by decide))]; generalize u 7 = vx7 at *; rw [bis (w := wz) (hF 8 (by decide))]; rw [bis (w := wz) (hF 9 (by decide))]; rw [bis (w := wz) (hF 10 (by decide))]; rw [bis (w := wz) (hF 11 (by decide))]; rw [bis (w := wz) (hF 12 (by decide))]; rw [bis (w := wz) (hF 13 (by decide))]; rw [bis (w := wz) (hF 14 (by decide))]; rw [bis (w := wz) (hF 15 (by decide))]; rw [bis (w := wz) (hF 16 (by decide))]; rw [bis (w := wz) (hF 17 (by decide))]; rw [bis (w := wz) (hF 18 (by decide))]; rw [bis (w := wz) (hF 19 (by decide))]; generalize u 20 = vx20 at *; generalize u 21 = vx21 at *; rw [bis (w := wz) (hF 22 (by decide))]; generalize u 23 = vx23 at *; rw [bis (w := wz) (hF 24 (by decide))]; rw [bis (w := wz) (hF 25 (by decide))]; clear hF
        have hw_wz := hw_W.trans (hb_wz.mono hw_W.size)
        clear hw_W
        replace HS := Lib.hid (HS.out.below hb_wz)
        replace HT := Lib.hid (HT.out.below hb_wz)
        replace HX := Lib.hid (HX.out.below hb_wz)
        replace HP := Lib.hid (Box4.bel HP.out hb_wz)
        go_wp2
        go_ret
        exact ⟨rfl, hw_wz⟩
end Go.Proofs.YtibanpeiigbofaaDoor
