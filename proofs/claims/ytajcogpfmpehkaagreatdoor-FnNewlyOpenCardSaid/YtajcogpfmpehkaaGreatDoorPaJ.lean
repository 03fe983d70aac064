/- Parts of all packets: the program's walk, all rules. -/
import Derived.Test.YtajcogpfmpehkaaGreatDoorPaI
import Derived.Test.YtajcogpfmpehkaaGreatDoorAsD
namespace Go.Proofs.YtajcogpfmpehkaaGreatDoor
open Go.RowKit
theorem less_ok {b : Bx} {xs ys : List Bx} (hb : bvalid b = true) (h : blessB b xs = some ys) : ys.length ≤ 400 := (rvalid_all (blessB_valid hb h)).1
theorem liveAt_len {fs : List Ft} (hv : fvalid fs = true) {k : Nat} {ys : List Bx} (h : liveAt fs k = some ys) : ys.length ≤ 400 := by
  unfold liveAt at h
  split at h
  · rename_i f hf
    exact less_ok (fvalid_at hv hf) h
  · exact less_ok ball_valid h
theorem partl_len {fs : List Ft} {r : Bool} {k : Nat} {out : List Ft} (h : partl fs r k = some out) : out.length ≤ 400 := by
  cases k with
  | zero => cases h; simp
  | succ k =>
    obtain ⟨_, _, _, _, _, h4⟩ := partl_some h
    exact h4
theorem NX.res {X : Nat → Prop} {lo q : Nat} {w : World} {v : Value} {L : List Bx} (s0 s1 : Value) (h : NX X lo w v L) (hq : q < lo) (h0 : w.cell? ⟨q, 0, none⟩ = some (.slice none 0 0)) (h1 : w.cell? ⟨q, 1, none⟩ = some (.slice none 0 0)) : Iss 0 ((w.setCell ⟨q, 0, none⟩ s0).setCell ⟨q, 1, none⟩ s1) v L := by
  obtain ⟨rs, g1, g2⟩ := h
  have hint : ∀ (p : Addr) (n : Int), w.cell? p = some (.int .i64 n) → ((w.setCell ⟨q, 0, none⟩ s0).setCell ⟨q, 1, none⟩ s1).cell? p = some (.int .i64 n) := fun p n hp => by
    have e0 : p ≠ ⟨q, 0, none⟩ := fun e => by rw [e, h0] at hp; cases hp
    have e1 : p ≠ ⟨q, 1, none⟩ := fun e => by rw [e, h1] at hp; cases hp
    rw [World.cell?_setCell_other _ _ _ _ (Ne.symm e1), World.cell?_setCell_other _ _ _ _ (Ne.symm e0)]
    exact hp
  have g3 : OwnSl lo 77 4 R4.enc ((w.setCell ⟨q, 0, none⟩ s0).setCell ⟨q, 1, none⟩ s1) v rs := OwnSl.keepB g1 (fun g _ g4 _ => by
    rw [Below.heap_setCell _ _ _ _ (by simp only; omega), Below.heap_setCell _ _ _ _ (by simp only; omega)])
  exact ⟨rs, SlFr.mono (OwnSl.fr (sz := 4) (enc := R4.enc) (fun _ => rfl) g3) (Nat.zero_le _), g2.mono (fun _ _ g => (All2.mono g (fun _ _ p => Sps.ints p.1 (by simp) hint) : All2 _ _ _))⟩
set_option maxHeartbeats 4000000 in
set_option maxRecDepth 100000 in
theorem partsOf_any {lo : Nat} (fs : List Ft) (r : Bool) (v : Value) (w : World) (ht : Tab w) (hs : Ifs lo w v fs) (hv : fvalid fs = true) :
    Calls Tryz.prog 21 #[v, .bool r] w fun e w' => ∃ ea el ec da dl dc, e = .returned (.tuple #[.agg #[.slice ea el ec, .slice da dl dc], .bool (parts fs r).isSome]) ∧ (∀ R, parts fs r = some R → Iss 0 w' (.slice ea el ec) (psel R true) ∧ Iss 0 w' (.slice da dl dc) (psel R false)) ∧ Below w.heap.size w w' := by
  obtain ⟨a, cap, rfl, hlc, hcm⟩ := hs.form
  unfold maxLen at hcm
  have h60 := fvalid_60 hv
  obtain ⟨W, hW⟩ : ∃ W, (w.alloc (.cells #[.slice none 0 0, .slice none 0 0] 47)).alloc (.cells #[.slice none 0 0, .slice none 0 0] 47) = W := ⟨_, rfl⟩
  have hal : Below w.heap.size w W := by rw [← hW]; (repeat' (first | with_reducible exact Below.refl _ _ | with_reducible assumption | with_reducible refine Below.setCell ?_ ?_ _ | with_reducible refine Below.alloc ?_ ?_ _ | with_reducible refine Below.drew ?_ | with_reducible refine belDrewN ?_ _ | with_reducible refine Below.trans ?_ (Below.mono (by assumption) ?_) | omega | (simp; omega) | (simp; done)))
  have HA4 := alloc2_cells w #[.slice none 0 0, .slice none 0 0] #[.slice none 0 0, .slice none 0 0] 47 47
  rw [hW] at HA4
  have qs : W.heap.size = w.heap.size + 1 + 1 := by rw [← hW]; simp
  have HR := Lib.hid (show ∀ w', Below (w.heap.size + 1) W w' → w'.cell? ⟨w.heap.size, 0, none⟩ = some (.slice none 0 0) ∧ w'.cell? ⟨w.heap.size, 1, none⟩ = some (.slice none 0 0) ∧ ∀ j, w'.frozen? ⟨w.heap.size, j, none⟩ = false from fun w' hb => ⟨by
    rw [hb.cell (p := ⟨w.heap.size, 0, none⟩) (by simp only; omega), (HA4.1 0).1]; rfl, by
    rw [hb.cell (p := ⟨w.heap.size, 1, none⟩) (by simp only; omega), (HA4.1 1).1]; rfl, fun j => by
    rw [hb.frozen (p := ⟨w.heap.size, j, none⟩) (by simp only; omega)]; exact (HA4.1 j).2⟩)
  have HP0 := Lib.hid (show PT (w.heap.size + 1) (w.heap.size + 1) W [] by
    have := PT.start (base := w.heap.size + 1) (w := w.alloc (.cells #[.slice none 0 0, .slice none 0 0] 47)) (by simp) 47
    rw [hW] at this
    simpa using this)
  generalize hn : fs.length = n at *
  have HN := Lib.hid hn
  have HS := Lib.hid hs
  have HV := Lib.hid hv
  clear hs hv hn HA4
  go_enter Tryz.func21, Tryz.ntmps21
  go_wp2_with fail
  go_loopw [7, 8, 9, 10, 15] (fun _ _ _ _ i wr => ∃ (k : Nat) (out : List Ft), k ≤ n ∧ i = .int .i64 k ∧ Hid (PT (w.heap.size + 1) (w.heap.size + 1) wr out) ∧ Hid (partl fs r k = some out) ∧ Below (w.heap.size + 1) W wr) (fun _ _ _ _ i _ => n - (intOf i).toNat)
  case atStart => exact ⟨0, [], by omega, rfl, HP0, Lib.hid rfl, Below.refl _ _⟩
  case round =>
    clear HP0 hW
    obtain ⟨k, out, hk, rfl, HP, HO, hbr⟩ := hrel
    have hzr := hbr.size
    have hwr : Below w.heap.size w wr := hal.trans (hbr.mono (by omega))
    have HOL := Lib.hid (partl_len HO.out)
    by_cases hlt : k < n
    · have i1 : (k : Int) < (n : Int) := by omega
      have i2 : (0 : Int) ≤ (k : Int) := by omega
      obtain ⟨f, hx⟩ : ∃ f, fs[k]? = some f := ⟨_, List.getElem?_eq_getElem (by rw [HN.out]; exact hlt)⟩
      obtain ⟨b, o, v0, v1, v2, v3, rfl, hbl, c0, c1, c2, c3, c4, hss⟩ := HS.out.at hx
      replace c0 := (hwr.cell (p := ⟨b, o + k * 5, none⟩) hbl).trans c0
      replace c1 := (hwr.cell (p := ⟨b, o + k * 5 + 1, none⟩) hbl).trans c1
      replace c2 := (hwr.cell (p := ⟨b, o + k * 5 + 2, none⟩) hbl).trans c2
      replace c3 := (hwr.cell (p := ⟨b, o + k * 5 + 3, none⟩) hbl).trans c3
      replace c4 := (hwr.cell (p := ⟨b, o + k * 5 + 4, none⟩) hbl).trans c4
      have hbl2 := Nat.lt_of_lt_of_le hbl hwr.size
      obtain ⟨a0, n0, p0, a1, n1, p1, a2, n2, p2, a3, n3, p3, rfl, rfl, rfl, rfl⟩ := sl4_form hss
      have HAC := Lib.hid (accAt_lt (r := r) hx)
      have HLA := Lib.hid (liveAt_lt hx)
      obtain ⟨R, hR⟩ : ∃ R, livek fs k = R := ⟨_, rfl⟩
      have HRR := Lib.hid hR
      obtain ⟨fa, hfa⟩ : ∃ fa, f.acc = fa := ⟨_, rfl⟩
      rw [hfa] at c4
      have HFA := Lib.hid hfa
      clear hx hss hR hfa
      go_wp2_with fail
      obtain ⟨W1, hW1⟩ : ∃ W1, wr.alloc (.cells #[.slice a0 n0 p0, .slice a1 n1 p1, .slice a2 n2 p2, .slice a3 n3 p3, .bool fa] 88) = W1 := ⟨_, rfl⟩
      have hal1 : Below wr.heap.size wr W1 := by rw [← hW1]; exact (Below.refl _ _).alloc (Nat.le_refl _) _
      have q4 : W1.cell? ⟨wr.heap.size, 4, none⟩ = some (.bool fa) := by rw [← hW1]; simp
      have hz1 : W1.heap.size = wr.heap.size + 1 := by rw [← hW1]; simp
      rw [hW1]
      clear hW1 c0 c1 c2 c3 c4
      have hw1 : Below w.heap.size w W1 := hwr.trans (hal1.mono hwr.size)
      have HP1 := Lib.hid (HP.out.below hal1)
      refine (liveX_any (X := fun q => w.heap.size + 1 ≤ q ∧ q < W1.heap.size) fs _ k W1 (ht.below hw1) (fun q hq => hq.2) (Ifs.old HS.out hw1 (fun q hq => by omega)) HV.out (by rw [HN.out]; exact hlt)).mono ?_
      rw [HRR.out]
      rintro e w2 ⟨z2, rfl, hz2, hb2⟩
      have hzs2 := hb2.size
      have q42 := (hb2.cell (p := ⟨wr.heap.size, 4, none⟩) (by simp only; omega)).trans q4
      have hb12 : Below (w.heap.size + 1) W w2 := (hbr.trans (hal1.mono (by omega))).trans (hb2.mono (by omega))
      have HP2 := Lib.hid (HP1.out.below hb2)
      have HIX := Lib.hid (HP1.out.inX hb2)
      have hl42 : wr.heap.size < w2.heap.size := by omega
      cases R with
      | none =>
        have HNO := Lib.hid (show parts fs r = none from partl_none (partl_dead (HLA.out.trans HRR.out)) _ (by rw [HN.out]; omega))
        obtain ⟨r0, r1, rf⟩ := HR.out w2 hb12
        have rf0 := rf 0
        have rf1 := rf 1
        have hwW : Below w.heap.size w ((w2.setCell ⟨w.heap.size, 0, none⟩ (.slice none 0 0)).setCell ⟨w.heap.size, 1, none⟩ (.slice none 0 0)) := ((hal.trans (hb12.mono (by omega))).setCell (Nat.le_refl _) _).setCell (Nat.le_refl _) _
        clear hz2
        go_wp2
        refine bodyPost_ret (v := .tuple #[.agg #[.slice none 0 0, .slice none 0 0], .bool false]) ?_ rfl ⟨_, _, _, _, _, _, by rw [HNO.out]; rfl, fun R h => (by rw [HNO.out] at h; cases h), hwW⟩
        simp [results, Tryz.results21, go_sem, r0, r1]
      | some ys =>
        have hy := hz2 ys rfl
        obtain ⟨ya, yc, rfl, -, -⟩ := hy.form
        have HY := Lib.hid hy
        have HST := Lib.hid (partl_step HO.out (HLA.out.trans HRR.out))
        rw [HAC.out, HFA.out] at HST
        generalize ys.length = yn at *
        clear hz2 hy
        go_wp2_with fail
        refine (add_any fa w2 HP2.out HY.out HIX.out HOL.out (liveAt_len HV.out (HLA.out.trans HRR.out))).mono ?_
        rintro e w3 ⟨rfl, hp3, hb3⟩
        have HP3 := Lib.hid hp3
        have hb13 := hb12.trans hb3
        clear hp3 q42
        by_cases hc : (addp out ys fa).length ≤ 400
        · have HNX := Lib.hid (HST.out.trans (if_pos hc))
          have hd : decide ((addp out ys fa).length ≤ 400) = true := decide_eq_true hc
          rw [hd]
          clear hd hc
          go_wp2
          go_roundw
          case rel => exact ⟨k + 1, _, by omega, by go_num, HP3, HNX, hb13⟩
          case measure => simp [intOf]; omega
        · have HNO := Lib.hid (show parts fs r = none from partl_none (HST.out.trans (if_neg hc)) _ (by rw [HN.out]; omega))
          have hd : decide ((addp out ys fa).length ≤ 400) = false := decide_eq_false hc
          rw [hd]
          clear hd hc
          obtain ⟨r0, r1, rf⟩ := HR.out w3 hb13
          have rf0 := rf 0
          have rf1 := rf 1
          have hwW : Below w.heap.size w ((w3.setCell ⟨w.heap.size, 0, none⟩ (.slice none 0 0)).setCell ⟨w.heap.size, 1, none⟩ (.slice none 0 0)) := ((hal.trans (hb13.mono (by omega))).setCell (Nat.le_refl _) _).setCell (Nat.le_refl _) _
          go_wp2
          refine bodyPost_ret (v := .tuple #[.agg #[.slice none 0 0, .slice none 0 0], .bool false]) ?_ rfl ⟨_, _, _, _, _, _, by rw [HNO.out]; rfl, fun R h => (by rw [HNO.out] at h; cases h), hwW⟩
          simp [results, Tryz.results21, go_sem, r0, r1]
    · have hkn : k = n := by omega
      have HO2 := Lib.hid (show partl fs r fs.length = some out by rw [HN.out, ← hkn]; exact HO.out)
      have HBD := Lib.hid (show fs.length ≤ 1000000 by rw [HN.out]; omega)
      go_wp2_with fail
      refine (allSides_any wr (ht.below hwr)).mono ?_
      rintro e w1 ⟨v0, v1, v2, v3, rfl, hv1, hb1⟩
      have hz1 := hb1.size
      have hw1 := hwr.trans (hb1.mono hwr.size)
      obtain ⟨a0, n0, p0, a1, n1, p1, a2, n2, p2, a3, n3, p3, rfl, rfl, rfl, rfl⟩ := sl4_form hv1
      have HV1 := Lib.hid hv1
      have HS1 := Lib.hid (Ifs.old (X := fun q => w.heap.size + 1 ≤ q ∧ q < wr.heap.size) HS.out hw1 (fun q hq => by omega))
      clear hv1
      go_wp2_with fail
      refine (wheresX_any fs _ w1 HS1.out HBD.out).mono ?_
      rintro e w2 ⟨z2, rfl, hz2, hb2⟩
      obtain ⟨za, zc, rfl, -, -⟩ := hz2.form
      have HZ2 := Lib.hid hz2
      have hzs2 := hb2.size
      have hw2 := hw1.trans (hb2.mono hw1.size)
      generalize (fboxes fs).length = zn at *
      obtain ⟨R, hR⟩ : ∃ R, blessB ball (fboxes fs) = R := ⟨_, rfl⟩
      have HRR := Lib.hid hR
      have HLA := Lib.hid (show liveAt fs fs.length = R by rw [liveAt_end]; exact hR)
      clear hz2 hR
      go_wp2_with fail
      refine (less_r (X := fun q => w.heap.size + 1 ≤ q ∧ q < wr.heap.size) HRR.out (ht.below hw2) (fun q hq => by omega) (HV1.out.mono (fun _ _ g => (SpV.highX g (fun q hq => hq.2)).below hb2)) HZ2.out ball_valid (fboxes_valid HV.out)).mono ?_
      rintro e w3 ⟨z3, rfl, hz3, hb3⟩
      have hzs3 := hb3.size
      have hbr3 : Below wr.heap.size wr w3 := (hb1.trans (hb2.mono hz1)).trans (hb3.mono (by omega))
      have hb13 : Below (w.heap.size + 1) W w3 := hbr.trans (hbr3.mono (by omega))
      have HP3 := Lib.hid (HP.out.below hbr3)
      have HIX := Lib.hid (HP.out.inX hbr3)
      clear hb1 hb2 hb3
      cases R with
      | none =>
        have HNO := Lib.hid (show parts fs r = none from partl_dead HLA.out)
        obtain ⟨r0, r1, rf⟩ := HR.out w3 hb13
        have rf0 := rf 0
        have rf1 := rf 1
        have hwW : Below w.heap.size w ((w3.setCell ⟨w.heap.size, 0, none⟩ (.slice none 0 0)).setCell ⟨w.heap.size, 1, none⟩ (.slice none 0 0)) := ((hal.trans (hb13.mono (by omega))).setCell (Nat.le_refl _) _).setCell (Nat.le_refl _) _
        clear hz3
        go_wp2
        refine bodyPost_ret (v := .tuple #[.agg #[.slice none 0 0, .slice none 0 0], .bool false]) ?_ rfl ⟨_, _, _, _, _, _, by rw [HNO.out]; rfl, fun R h => (by rw [HNO.out] at h; cases h), hwW⟩
        simp [results, Tryz.results21, go_sem, r0, r1]
      | some ys =>
        have hy := hz3 ys rfl
        obtain ⟨ya, yc, rfl, -, -⟩ := hy.form
        have HY := Lib.hid hy
        have HST := Lib.hid (partl_step HO2.out HLA.out)
        rw [accAt_end] at HST
        generalize ys.length = yn at *
        clear hz3 hy
        go_wp2_with fail
        refine (add_any r w3 HP3.out HY.out HIX.out HOL.out (liveAt_len HV.out HLA.out)).mono ?_
        rintro e w4 ⟨rfl, hp4, hb4⟩
        have HP4 := Lib.hid hp4
        have hb14 := hb13.trans hb4
        clear hp4
        by_cases hc : (addp out ys r).length ≤ 400
        · have HNX := Lib.hid (show parts fs r = some (addp out ys r) from HST.out.trans (if_pos hc))
          have hd : decide ((addp out ys r).length ≤ 400) = true := decide_eq_true hc
          rw [hd]
          obtain ⟨va, vd, g0, g1, m0, m1, m2, hna, hnd⟩ := HP4.out.vs
          obtain ⟨ea, ec, rfl⟩ := hna.form
          obtain ⟨da, dc, rfl⟩ := hnd.form
          have HNA := Lib.hid hna
          have HND := Lib.hid hnd
          obtain ⟨r0, r1, rf⟩ := HR.out w4 hb14
          have rf0 := rf 0
          have rf1 := rf 1
          generalize (psel (addp out ys r) true).length = l0 at *
          generalize (psel (addp out ys r) false).length = l1 at *
          have hwW : Below w.heap.size w ((w4.setCell ⟨w.heap.size, 0, none⟩ (.slice ea l0 ec)).setCell ⟨w.heap.size, 1, none⟩ (.slice da l1 dc)) := ((hal.trans (hb14.mono (by omega))).setCell (Nat.le_refl _) _).setCell (Nat.le_refl _) _
          clear hd hc hna hnd m0 m1 m2
          go_wp2
          refine bodyPost_ret (v := .tuple #[.agg #[.slice ea l0 ec, .slice da l1 dc], .bool true]) ?_ rfl ⟨_, _, _, _, _, _, by rw [HNX.out]; rfl, fun R h => ?_, hwW⟩
          · simp [results, Tryz.results21, go_sem, r0, r1]
          · rw [HNX.out] at h
            cases h
            exact ⟨NX.res _ _ HNA.out (Nat.lt_succ_self _) r0 r1, NX.res _ _ HND.out (Nat.lt_succ_self _) r0 r1⟩
        · have HNO := Lib.hid (show parts fs r = none from HST.out.trans (if_neg hc))
          have hd : decide ((addp out ys r).length ≤ 400) = false := decide_eq_false hc
          rw [hd]
          clear hd hc
          obtain ⟨r0, r1, rf⟩ := HR.out w4 hb14
          have rf0 := rf 0
          have rf1 := rf 1
          have hwW : Below w.heap.size w ((w4.setCell ⟨w.heap.size, 0, none⟩ (.slice none 0 0)).setCell ⟨w.heap.size, 1, none⟩ (.slice none 0 0)) := ((hal.trans (hb14.mono (by omega))).setCell (Nat.le_refl _) _).setCell (Nat.le_refl _) _
          go_wp2
          refine bodyPost_ret (v := .tuple #[.agg #[.slice none 0 0, .slice none 0 0], .bool false]) ?_ rfl ⟨_, _, _, _, _, _, by rw [HNO.out]; rfl, fun R h => (by rw [HNO.out] at h; cases h), hwW⟩
          simp [results, Tryz.results21, go_sem, r0, r1]
theorem partsOf_r {lo : Nat} {fs : List Ft} {r : Bool} {v : Value} {w : World} {O : Option (List Ft)} (h : parts fs r = O) (ht : Tab w) (hs : Ifs lo w v fs) (hv : fvalid fs = true) :
    Calls Tryz.prog 21 #[v, .bool r] w fun e w' => ∃ ea el ec da dl dc, e = .returned (.tuple #[.agg #[.slice ea el ec, .slice da dl dc], .bool O.isSome]) ∧ (∀ R, O = some R → Iss 0 w' (.slice ea el ec) (psel R true) ∧ Iss 0 w' (.slice da dl dc) (psel R false)) ∧ Below w.heap.size w w' := by
  subst h
  exact partsOf_any fs r v w ht hs hv
end Go.Proofs.YtajcogpfmpehkaaGreatDoor
