/- The box of tests, exactly: the reference. -/
import Derived.Test.YtfcbbahlhjdefaaGreatDoorUSm
import Derived.Test.YtfcbbahlhjdefaaGreatDoorRsY
namespace Go.Proofs.YtfcbbahlhjdefaaGreatDoor
open Go.RowKit
set_option maxHeartbeats 2000000 in
theorem testSpansE_any (f : Nat) (lo hi : Int) (q : Bool) (w : World) (hf : f < 4) (h : tvalid1 f lo hi = true) :
    Calls Tryz.prog 101 #[.agg #[.int .i64 f, .int .i64 lo, .int .i64 hi, .bool q]] w (RetSp (tspans ⟨f, lo, hi, q⟩) w) := by
  have hal : Below w.heap.size w (w.alloc (.cells #[.int .i64 f, .int .i64 lo, .int .i64 hi, .bool q] 159)) := (Below.refl _ _).alloc (Nat.le_refl _) _
  go_enter Tryz.func101, Tryz.ntmps101
  go_wp2_with fail
  refine (specTV_b h _).mono ?_
  rintro e w1 ⟨rfl, hb1⟩
  have hw1 := hal.trans (hb1.mono hal.size)
  have hz1 := hb1.size
  simp at hz1
  replace hz1 : w.heap.size < w1.heap.size := by omega
  have c0 := (hb1.cell (p := ⟨w.heap.size, 0, none⟩) (by simp)).trans (show (w.alloc (.cells #[.int .i64 f, .int .i64 lo, .int .i64 hi, .bool q] 159)).cell? ⟨w.heap.size, 0, none⟩ = some (.int .i64 f) by simp)
  have c1 := (hb1.cell (p := ⟨w.heap.size, 1, none⟩) (by simp)).trans (show (w.alloc (.cells #[.int .i64 f, .int .i64 lo, .int .i64 hi, .bool q] 159)).cell? ⟨w.heap.size, 1, none⟩ = some (.int .i64 lo) by simp)
  have c2 := (hb1.cell (p := ⟨w.heap.size, 2, none⟩) (by simp)).trans (show (w.alloc (.cells #[.int .i64 f, .int .i64 lo, .int .i64 hi, .bool q] 159)).cell? ⟨w.heap.size, 2, none⟩ = some (.int .i64 hi) by simp)
  have c3 := (hb1.cell (p := ⟨w.heap.size, 3, none⟩) (by simp)).trans (show (w.alloc (.cells #[.int .i64 f, .int .i64 lo, .int .i64 hi, .bool q] 159)).cell? ⟨w.heap.size, 3, none⟩ = some (.bool q) by simp)
  clear hb1
  have hO : OwnSp w.heap.size (w1.alloc (.cells #[.int .i64 lo, .int .i64 hi] 74)) (.slice (some ⟨w1.heap.size, 0, none⟩) 1 1) [⟨lo, hi⟩] := litSp1 (by omega)
  have hal1 : Below w.heap.size w (w1.alloc (.cells #[.int .i64 lo, .int .i64 hi] 74)) := hw1.alloc (by omega) _
  cases q
  · go_wp2
    go_ret
    exact ⟨_, rfl, hO, hal1⟩
  · go_wp2_with fail
    refine (specFTop_any f hf _).mono ?_
    rintro e _ ⟨rfl, rfl⟩
    obtain ⟨g0, g1, g2⟩ := tvalid1_iff h
    go_wp2_with fail
    refine (l2Other_any [⟨lo, hi⟩] _ _ _ (OwnSp.sps hO) (by simp) (sgood_cons.2 ⟨g0, g1, g2, rfl⟩) (top_le hf).2).mono ?_
    rintro e w2 ⟨v2, rfl, ho2, hb2⟩
    have hz2 := hal1.size
    go_wp2
    go_ret
    exact ⟨_, rfl, OwnSl.mono ho2 hz2, hal1.trans (hb2.mono hz2)⟩
set_option maxHeartbeats 4000000 in
set_option maxRecDepth 100000 in
theorem testsBoxE_any {lo : Nat} {ts : List Te} {v : Value} {w : World} (hs : Tss lo w v ts) (hv : tsvalid ts = true) :
    Calls Tryz.prog 67 #[v] w fun e w' => ∃ v', e = .returned (.agg #[v']) ∧ Rws w.heap.size w' v' (tbox ts) ∧ Below w.heap.size w w' := by
  obtain ⟨ha, hl⟩ : (∀ (k : Nat) t, ts[k]? = some t → t.ok = true) ∧ ts.length ≤ 6 := by
    unfold tsvalid at hv
    rw [Bool.and_eq_true, List.all_eq_true, decide_eq_true_eq] at hv
    exact ⟨fun k t hk => hv.1 t (List.mem_of_getElem? hk), hv.2⟩
  obtain ⟨a, cap, rfl, hlc, hcm⟩ := hs.form
  unfold maxLen at hcm
  generalize hn : ts.length = n at *
  have HN := Lib.hid hn
  have HA := Lib.hid ha
  have HV := Lib.hid hv
  obtain ⟨W, hW⟩ : ∃ W, (w.alloc (.cells #[.slice none 0 0] 41)) = W := ⟨_, rfl⟩
  have hal : Below w.heap.size w W := by rw [← hW]; (repeat' (first | with_reducible exact Below.refl _ _ | with_reducible assumption | with_reducible refine Below.setCell ?_ ?_ _ | with_reducible refine Below.alloc ?_ ?_ _ | with_reducible refine Below.drew ?_ | with_reducible refine belDrewN ?_ _ | with_reducible refine Below.trans ?_ (Below.mono (by assumption) ?_) | omega | (simp; omega) | (simp; done)))
  have qs : W.heap.size = w.heap.size + 1 := by rw [← hW]; simp
  have g2 : W.cell? ⟨w.heap.size, 0, none⟩ = some (.slice none 0 0) := by rw [← hW]; simp
  have m2 : W.frozen? ⟨w.heap.size, 0, none⟩ = false := by rw [← hW]; exact frz_new w _ _ 0
  have hsW := hs.below hal
  clear hn hs ha hv
  go_enter Tryz.func67, Tryz.ntmps67
  go_wp2_with fail
  refine (specTsG_b hsW HV.out).mono ?_
  rintro e w1 ⟨rfl, hb1⟩
  go_wp2_with fail
  refine (boxAll_any _).mono ?_
  rintro e w2 ⟨v2, rfl, ho2, hb2⟩
  have hz1 := hb1.size
  have hz2 := hb2.size
  have hw1 := hal.trans (hb1.mono hal.size)
  have hw2 := hw1.trans (hb2.mono hw1.size)
  have hB2 : BxP none (w.heap.size + 1) w2 v2 ball := (GRw.bx ho2).mono (by omega)
  obtain ⟨g, vc, rfl, hg1, hg2, -, -, -⟩ := hB2.ptr (by decide)
  obtain ⟨V, hV⟩ : ∃ V, w2.alloc (.cells #[.slice (some ⟨g, 0, none⟩) 4 vc] 41) = V := ⟨_, rfl⟩
  have hb3 : Below w2.heap.size w2 V := by rw [← hV]; exact (Below.refl _ _).alloc (Nat.le_refl _) _
  have hzV : V.heap.size = w2.heap.size + 1 := by rw [← hV]; simp
  have q0 : V.cell? ⟨w2.heap.size, 0, none⟩ = some (.slice (some ⟨g, 0, none⟩) 4 vc) := by rw [← hV]; simp
  have hBV := Lib.hid (hB2.below hb3)
  have hVb : Below w.heap.size w V := hw2.trans (hb3.mono hw2.size)
  have hW2 : Below W.heap.size W V := (hb1.trans (hb2.mono hb1.size)).trans (hb3.mono (by omega))
  have hl4 : ball.length = 4 := rfl
  have HSW := Lib.hid hsW
  clear hB2 ho2 hb1 hb2 hb3
  go_wp2_with fail
  go_loopw [4] (fun i wr => ∃ (k : Nat) (bx : Bx), k ≤ n ∧ Hid (bx = (ts.take k).foldl tbox1 ball) ∧ i = .int .i64 k ∧ Below w.heap.size w wr ∧ Below W.heap.size W wr ∧ w2.heap.size < wr.heap.size ∧ wr.cell? ⟨w2.heap.size, 0, none⟩ = some (.slice (some ⟨g, 0, none⟩) 4 vc) ∧ Hid (BxP none (w.heap.size + 1) wr (.slice (some ⟨g, 0, none⟩) 4 vc) bx) ∧ bx.length = 4 ∧ Hid (BGood (1 + k) bx)) (fun i _ => n - (intOf i).toNat)
  case atStart => exact ⟨0, ball, by omega, Lib.hid rfl, rfl, hVb, hW2, by omega, q0, hBV, rfl, Lib.hid BGood.ball⟩
  case round =>
    obtain ⟨k, bx, hk, HE, rfl, hbr, hWr, hzr2, c0, HB, hb4, HX⟩ := hrel
    have hzr := hbr.size
    clear q0 hBV hVb hW2 hzV
    by_cases hlt : k < n
    · have i1 : (k : Int) < (n : Int) := by omega
      have i2 : (0 : Int) ≤ (k : Int) := by omega
      obtain ⟨b', o, f, lo', hi, q, rfl, hbl, hx, e0, e1, e2, e3⟩ := HSW.out.z.at (show k < ts.length by rw [HN.out]; exact hlt)
      have hok : tvalid1 f lo' hi = true := HA.out k _ hx
      have hx9 := hx
      obtain ⟨fk, rfl, hf4⟩ := tvalid1_fld hok
      obtain ⟨s0, xs0, d0, hx0, hs0⟩ := HB.out.at (show fk < bx.length by rw [hb4]; exact hf4)
      have hl0 : xs0.length ≤ 7 := by
        have := (HX.out.2 fk hf4).2
        rw [getD_get hx0] at this
        omega
      obtain ⟨tg1, tg2⟩ := tspans_good (t := ⟨fk, lo', hi, q⟩) hok
      obtain ⟨TS, hTS⟩ : ∃ TS, tspans ⟨fk, lo', hi, q⟩ = TS := ⟨_, rfl⟩
      have HTE := fun w => testSpansE_any fk lo' hi q w hf4 hok
      rw [hTS] at HTE tg2
      obtain ⟨NN, hNN⟩ : ∃ NN, smeet xs0 TS = NN := ⟨_, rfl⟩
      have HSTEP := Lib.hid (show (ts.take (k + 1)).foldl tbox1 ball = bx.set fk NN by
        rw [List.take_add_one, hx, Option.toList_some, List.foldl_append, ← HE.out]
        show tbox1 bx ⟨fk, lo', hi, q⟩ = _
        unfold tbox1
        rw [hTS, show ((⟨(fk : Int), lo', hi, q⟩ : Te).fld.toNat) = fk from by simp, getD_get hx0, hNN])
      have HG2 := Lib.hid (show BGood (1 + (k + 1)) (bx.set fk NN) by
        have h1 := HX.out.step (t := ⟨fk, lo', hi, q⟩) hok
        unfold tbox1 at h1
        rw [hTS, show ((⟨(fk : Int), lo', hi, q⟩ : Te).fld.toNat) = fk from by simp, getD_get hx0, hNN] at h1
        exact h1)
      have a0 := (hWr.cell (p := ⟨b', o + k * 4, none⟩) hbl).trans e0
      have a1 := (hWr.cell (p := ⟨b', o + k * 4 + 1, none⟩) hbl).trans e1
      have a2 := (hWr.cell (p := ⟨b', o + k * 4 + 2, none⟩) hbl).trans e2
      have a3 := (hWr.cell (p := ⟨b', o + k * 4 + 3, none⟩) hbl).trans e3
      have hblr : b' < wr.heap.size := Nat.lt_of_lt_of_le hbl hWr.size
      have hgr : g < wr.heap.size := by omega
      have hfr : ∀ j, wr.frozen? ⟨g, j, none⟩ = false := by
        obtain ⟨q', c', he, -, -, -, -, hf⟩ := HB.out.ptr (by omega)
        obtain ⟨he, -, -⟩ := Value.slice.inj he
        cases he; exact hf
      go_wp2_with fail
      refine wp_region_last (fun _ w => Below wr.heap.size wr w) (fun a b => Below a.heap.size a b) (bof [BIs (.pointer (some ⟨w2.heap.size, 0, none⟩)), BIs (.slice (some ⟨g, 0, none⟩) 4 vc), BIs (.int .i64 (fk : Int)), BIs (.pointer (some ⟨w2.heap.size, 0, none⟩)), BIs (.slice (some ⟨g, 0, none⟩) 4 vc), BIs (.int .i64 (fk : Int)), BIs (.pointer (some ⟨g, fk, none⟩)), BIs (s0), BIs (.slice (some ⟨b', o, none⟩) n cap), BIs (.int .i64 (k : Int)), BIs (.pointer (some ⟨b', o + k * 4, none⟩)), BIs (.agg #[.int .i64 fk, .int .i64 lo', .int .i64 hi, .bool q]), (fun w v => OwnSp wr.heap.size w v TS), (fun w v => ∃ a c, v = .slice a NN.length c ∧ OwnSp wr.heap.size w (.slice a NN.length c) NN), BIs (.pointer (some ⟨g, fk, none⟩))]) (fun _ _ _ => True) (fun w9 => ∃ w6 a c, Below wr.heap.size wr w6 ∧ OwnSp wr.heap.size w6 (.slice a NN.length c) NN ∧ w9 = w6.setCell ⟨g, fk, none⟩ (.slice a NN.length c)) 15 (by kernel_rfl) rfl (fun u => by simp only [frU, Act.put, List.setIfInBounds_toArray, List.set_cons_succ, List.set_cons_zero, Nat.zero_add, Nat.reduceAdd]; exact rfl) (by kernel_rfl) (by kernel_rfl) (fun iz wz wy vz hbz hz => bof_stb [BIs (.pointer (some ⟨w2.heap.size, 0, none⟩)), BIs (.slice (some ⟨g, 0, none⟩) 4 vc), BIs (.int .i64 (fk : Int)), BIs (.pointer (some ⟨w2.heap.size, 0, none⟩)), BIs (.slice (some ⟨g, 0, none⟩) 4 vc), BIs (.int .i64 (fk : Int)), BIs (.pointer (some ⟨g, fk, none⟩)), BIs (s0), BIs (.slice (some ⟨b', o, none⟩) n cap), BIs (.int .i64 (k : Int)), BIs (.pointer (some ⟨b', o + k * 4, none⟩)), BIs (.agg #[.int .i64 fk, .int .i64 lo', .int .i64 hi, .bool q]), (fun w v => OwnSp wr.heap.size w v TS), (fun w v => ∃ a c, v = .slice a NN.length c ∧ OwnSp wr.heap.size w (.slice a NN.length c) NN), BIs (.pointer (some ⟨g, fk, none⟩))] ⟨bst_is _, bst_is _, bst_is _, bst_is _, bst_is _, bst_is _, bst_is _, bst_is _, bst_is _, bst_is _, bst_is _, bst_is _, (fun _ _ _ hb h => OwnSl.kept h hb), (fun _ _ _ hb h => (let ⟨a, c, h0, h1⟩ := h; ⟨a, c, h0, OwnSl.kept h1 hb⟩)), bst_is _, trivial⟩ iz wz wy vz hbz hz) ⟨rfl, rfl, rfl, Nat.le_refl _, fun _ _ => rfl⟩ ?_ ?_; (exact ⟨stSb rfl (fun u w3 hC hd Q K hK => by (go_step; exact hK _ _ rfl (Below.refl _ _) rfl)), stSb rfl (fun u w3 hC hd Q K hK => by (have hu := bis (w := w3) (hd 0 rfl); rw [hu] at hK ⊢; clear hu; have z1 := (hC.cell (p := ⟨w2.heap.size, 0, none⟩) hzr2).trans c0; go_step; exact hK _ _ rfl (Below.refl _ _) rfl)), stSb rfl (fun u w3 hC hd Q K hK => by (go_step; exact hK _ _ rfl (Below.refl _ _) rfl)), stSb rfl (fun u w3 hC hd Q K hK => by (go_step; exact hK _ _ rfl (Below.refl _ _) rfl)), stSb rfl (fun u w3 hC hd Q K hK => by (have hu := bis (w := w3) (hd 3 rfl); rw [hu] at hK ⊢; clear hu; have z1 := (hC.cell (p := ⟨w2.heap.size, 0, none⟩) hzr2).trans c0; go_step; exact hK _ _ rfl (Below.refl _ _) rfl)), stSb rfl (fun u w3 hC hd Q K hK => by (go_step; exact hK _ _ rfl (Below.refl _ _) rfl)), stSb rfl (fun u w3 hC hd Q K hK => by (have hu := bis (w := w3) (hd 4 rfl); rw [hu] at hK ⊢; clear hu; have hu := bis (w := w3) (hd 5 rfl); rw [hu] at hK ⊢; clear hu; go_step; exact hK _ _ rfl (Below.refl _ _) rfl)), stSb rfl (fun u w3 hC hd Q K hK => by (have hu := bis (w := w3) (hd 6 rfl); rw [hu] at hK ⊢; clear hu; have z1 := (hC.cell (p := ⟨g, fk, none⟩) hgr).trans d0; go_step; exact hK _ _ rfl (Below.refl _ _) rfl)), stSb rfl (fun u w3 hC hd Q K hK => by (go_step; exact hK _ _ rfl (Below.refl _ _) rfl)), stSb rfl (fun u w3 hC hd Q K hK => by (go_step; exact hK _ _ rfl (Below.refl _ _) rfl)), stSb rfl (fun u w3 hC hd Q K hK => by (have hu := bis (w := w3) (hd 8 rfl); rw [hu] at hK ⊢; clear hu; have hu := bis (w := w3) (hd 9 rfl); rw [hu] at hK ⊢; clear hu; go_step; exact hK _ _ rfl (Below.refl _ _) rfl)), stSb rfl (fun u w3 hC hd Q K hK => by (have hu := bis (w := w3) (hd 10 rfl); rw [hu] at hK ⊢; clear hu; have z0 := (hC.cell (p := ⟨b', o + k * 4, none⟩) hblr).trans a0; have z1 := (hC.cell (p := ⟨b', o + k * 4 + 1, none⟩) hblr).trans a1; have z2 := (hC.cell (p := ⟨b', o + k * 4 + 2, none⟩) hblr).trans a2; have z3 := (hC.cell (p := ⟨b', o + k * 4 + 3, none⟩) hblr).trans a3; go_step; exact hK _ _ rfl (Below.refl _ _) rfl)), stSb rfl (fun u w3 hC hd Q K hK => by (have hu := bis (w := w3) (hd 11 rfl); rw [hu] at hK ⊢; clear hu; go_step; refine (HTE _).mono ?_; rintro e w4 ⟨v4, rfl, ho4, hb4⟩; exact hK _ _ rfl hb4 (OwnSl.mono ho4 hC.size))), stSb rfl (fun u w3 hC hd Q K hK => by (have hu := bis (w := w3) (hd 7 rfl); rw [hu] at hK ⊢; clear hu; have h5 := hd 12 rfl; generalize u 12 = v5 at *; go_step; refine ((l2Meet_any xs0 TS _ _ _ (hs0.sub ((Sb.hole (g := some g) (g' := none) (Nat.le_refl _) (fun _ _ _ _ => ⟨by simp, hole_block (by simp)⟩)).trans (Sb.of hC.size (fun j _ h2 => hC.block j h2)))) (OwnSp.sps h5) (by omega) (by omega))).mono ?_; rintro e w4 ⟨v4, rfl, ho4, hb4⟩; exact hK _ _ rfl hb4 (by rw [hNN] at ho4; obtain ⟨a, c, rfl, -, -⟩ := (OwnSp.sps ho4).form; exact ⟨a, c, rfl, OwnSl.mono ho4 hC.size⟩))), stSb rfl (fun u w3 hC hd Q K hK => by (have hu := bis (w := w3) (hd 1 rfl); rw [hu] at hK ⊢; clear hu; have hu := bis (w := w3) (hd 2 rfl); rw [hu] at hK ⊢; clear hu; go_step; exact hK _ _ rfl (Below.refl _ _) rfl)), ⟨rfl, fun m u w3 hm hC hF Q K hK => by (dsimp only at hK ⊢; have hu := bis (w := w3) (hF 14 (by decide)); rw [hu] at hK ⊢; clear hu; obtain ⟨a6, c6, hu, h6⟩ := hF 13 (by decide); rw [hu] at hK ⊢; clear hu; have z0 := (hC.cell (p := ⟨g, fk, none⟩) hgr).trans d0; have z1 := (hC.frozen (p := ⟨g, fk, none⟩) hgr).trans (hfr fk);  go_step; exact hK _ _ rfl ⟨w3, a6, c6, hC, h6, rfl⟩ (fun _ _ => trivial))⟩⟩); intro u w9 hD _
      obtain ⟨w6, a6, c6, hb6, h6, rfl⟩ := hD
      have hz6 := hb6.size
      have hB6 : BxP none (w.heap.size + 1) (w6.setCell ⟨g, fk, none⟩ (.slice a6 NN.length c6)) (.slice (some ⟨g, 0, none⟩) 4 vc) (bx.set fk NN) := (HB.out.below hb6).set (by omega) ((((OwnSp.sps h6).sub (Sb.into2 hgr)).mono (by omega)))
      have hW6 : Below W.heap.size W w6 := hWr.trans (hb6.mono hWr.size)
      have hB7 : Below w.heap.size w (w6.setCell ⟨g, fk, none⟩ (.slice a6 NN.length c6)) := (hbr.trans (hb6.mono hzr)).setCell (by simp only; omega) _
      have hW7 : Below W.heap.size W (w6.setCell ⟨g, fk, none⟩ (.slice a6 NN.length c6)) := hW6.setCell (by simp only; omega) _
      have c7 : (w6.setCell ⟨g, fk, none⟩ (.slice a6 NN.length c6)).cell? ⟨w2.heap.size, 0, none⟩ = some (.slice (some ⟨g, 0, none⟩) 4 vc) := by
        rw [World.cell?_setCell_other _ _ _ _ (by intro e; have := (Addr.mk.inj e).1; omega)]
        exact (hb6.cell (p := ⟨w2.heap.size, 0, none⟩) hzr2).trans c0
      have HB7 := Lib.hid hB6
      clear hB6 h6 hb6 hW6
      go_wp2
      go_roundw
      case rel => exact ⟨k + 1, _, by omega, Lib.hid HSTEP.out.symm, by go_num, hB7, hW7, by simp; omega, c7, HB7, by simpa using hb4, HG2⟩
      case measure => simp [intOf]; omega
    · have hkn : k = n := by omega
      have HEX := Lib.hid (show bx = tbox ts by rw [HE.out, List.take_of_length_le (by rw [HN.out]; omega)]; rfl)
      have r0 := (hWr.cell (p := ⟨w.heap.size, 0, none⟩) (by simp only; omega)).trans g2
      have r1 := (hWr.frozen (p := ⟨w.heap.size, 0, none⟩) (by simp only; omega)).trans m2
      go_wp2_with fail
      refine bodyPost_ret (v := .agg #[.slice (some ⟨g, 0, none⟩) 4 vc]) ?_ rfl ⟨_, rfl, ?_, hbr.setCell (by simp only; omega) _⟩
      · simp [results, Tryz.results67, go_sem, r0]
      · rw [← HEX.out]
        exact BxP.rws0 ((HB.out.keep (by simp) (fun k k1 k2 _ => Below.heap_setCell _ _ _ _ (by simp only; omega)) (fun z hz => .inl hz)).mono (by omega))
end Go.Proofs.YtfcbbahlhjdefaaGreatDoor
