/- The law FnDeadFlats: the walk. -/
import Derived.Test.YtibanpeiigbofaaDoorDrF
import Derived.Test.YtibanpeiigbofaaDoorSaI
import Derived.Test.YtibanpeiigbofaaDoorDxAJ
import Derived.Test.YtibanpeiigbofaaDoorDxBT
import Derived.Test.YtibanpeiigbofaaDoorDeS
import Derived.Test.YtibanpeiigbofaaDoorDrS
import Derived.Test.YtibanpeiigbofaaDoorLvS
namespace Go.Proofs.YtibanpeiigbofaaDoor
open Go.RowKit
theorem deadl_succ_len {fs : List Ft} {k : Nat} : (deadl fs (k + 1)).length = (deadl fs k).length + (if deadk fs k = true then 1 else 0) := by
  rw [deadl, List.length_append]
  cases deadk fs k <;> rfl
theorem dead_here {fs : List Ft} {n k : Nat} (hk : k < n) :
    (deadk fs k = true ∧ (deadl fs n)[(deadl fs k).length]? = some (k : Int)) ∨ (deadk fs k = false ∧ (deadl fs n).length = (deadl fs k).length) ∨ (deadk fs k = false ∧ ∃ x : Int, (deadl fs n)[(deadl fs k).length]? = some x ∧ (k : Int) < x) := by
  have h := deadl_split fs (n - k) k
  rw [show k + (n - k) = n by omega] at h
  have hnk : n - k = (n - (k + 1)) + 1 := by omega
  cases hd : deadk fs k
  · rw [hnk, deadr_no hd] at h
    cases hD : deadr fs (k + 1) (n - (k + 1)) with
    | nil =>
      right; left
      rw [h, hD]
      simp
    | cons x D =>
      right; right
      refine ⟨rfl, x, ?_, ?_⟩
      · rw [h, hD, List.getElem?_append_right (Nat.le_refl _), Nat.sub_self]; rfl
      · have := deadr_ge fs (n - (k + 1)) (k + 1) x (by rw [hD]; exact List.mem_cons_self)
        omega
  · rw [hnk, deadr_yes hd] at h
    left
    refine ⟨rfl, ?_⟩
    rw [h, List.getElem?_append_right (Nat.le_refl _), Nat.sub_self]; rfl
theorem dead_live {fs : List Ft} {L : List Bx} {k : Nat} {q : Bool} (hv : fvalid fs = true) (hk : k < fs.length) (hL : livef fs (k : Int) = L) (hq : (livep fs (k : Int)).isSome = q) : (q && decide (L.length = 0)) = deadk fs k := by
  unfold livef at hL
  rw [livep_yes hv hk] at hL hq
  cases h : livek fs k with
  | none =>
    rw [h] at hL hq
    subst hL; subst hq
    rw [deadk_none h]; rfl
  | some ys =>
    rw [h] at hL hq
    subst hL; subst hq
    rw [deadk_isn h]; simp
set_option maxHeartbeats 4000000 in
set_option maxRecDepth 100000 in
theorem law_FnDeadFlats (bs bs2 : List Int) (v v2 : Value) (w : World) (h : CodeAt w v bs) (h2 : CodeAt w v2 bs2) (ht : Tab w) :
    Calls Tryd.prog 13 #[v, v2] w fun e w' => e = .returned (.bool true) ∧ Below w.heap.size w w' := by
  obtain ⟨a, cap, rfl, l1, l2, -⟩ := code_cells h
  obtain ⟨a2, cap2, rfl, m1, m2, -⟩ := code_cells h2
  unfold maxLen at l2 m2
  by_cases hl : 1048576 < bs.length
  · go_enter Tryd.func13, Tryd.ntmps13
    go_wp2
    go_ret
    exact ⟨rfl, by (repeat' (first | with_reducible exact Below.refl _ _ | with_reducible assumption | with_reducible refine Below.setCell ?_ ?_ _ | with_reducible refine Below.alloc ?_ ?_ _ | with_reducible refine Below.drew ?_ | with_reducible refine belDrewN ?_ _ | with_reducible refine Below.trans ?_ (Below.mono (by assumption) ?_) | omega | (simp; omega) | (simp; done)))⟩
  by_cases hl2 : 1048576 < bs2.length
  · go_enter Tryd.func13, Tryd.ntmps13
    go_wp2
    go_ret
    exact ⟨rfl, by (repeat' (first | with_reducible exact Below.refl _ _ | with_reducible assumption | with_reducible refine Below.setCell ?_ ?_ _ | with_reducible refine Below.alloc ?_ ?_ _ | with_reducible refine Below.drew ?_ | with_reducible refine belDrewN ?_ _ | with_reducible refine Below.trans ?_ (Below.mono (by assumption) ?_) | omega | (simp; omega) | (simp; done)))⟩
  have hsd : bs2.length ≤ 1048576 := by omega
  generalize bs2.length = sd at *
  go_enter Tryd.func13, Tryd.ntmps13
  go_wp2_with fail
  refine (drawDF_any _ _ _ h).mono ?_
  rintro e w1 ⟨v0, fs, rfl, ho, hlen, hok, hb_w1⟩
  have hw_w1 := hb_w1
  have HS := Lib.hid (ho.fts.mono (Nat.zero_le _))
  have HT := Lib.hid (ht.below hb_w1)
  have HOK := Lib.hid hok
  have HFN := Lib.hid (drawn_ftN hlen hok)
  clear hb_w1 ho hok h
  obtain ⟨sa, sc, rfl, hlc_sa, hcm_sa⟩ := HS.out.form
  unfold maxLen at hcm_sa
  obtain ⟨D, hD⟩ : ∃ D, deads fs = D := ⟨_, rfl⟩
  have HD := Lib.hid hD
  clear hD
  go_wp2_with fail
  refine (implDeadFlats_e HS.out HT.out HD.out).mono ?_
  rintro e w2 ⟨v2, rfl, ho, hb_w2⟩
  have hw_w2 := hw_w1.trans (hb_w2.mono hw_w1.size)
  clear hw_w1
  replace HS := Lib.hid (HS.out.below hb_w2)
  replace HT := Lib.hid (HT.out.below hb_w2)
  have HA := Lib.hid (ho.rd)
  clear hb_w2 ho
  go_wp2_with fail
  refine (specDeadFlats_e HS.out HFN.out HD.out).mono ?_
  rintro e w3 ⟨v3, rfl, ho, hb_w3⟩
  have hw_w3 := hw_w2.trans (hb_w3.mono hw_w2.size)
  clear hw_w2
  replace HS := Lib.hid (HS.out.below hb_w3)
  replace HT := Lib.hid (HT.out.below hb_w3)
  replace HA := Lib.hid (HA.out.below hb_w3)
  have HB := Lib.hid (ho)
  clear hb_w3 ho
  go_wp2_with fail
  refine (sameInts_e HA.out HB.out).mono ?_
  rintro e w4 ⟨rfl, hb_w4⟩
  have hw_w4 := hw_w3.trans (hb_w4.mono hw_w3.size)
  clear hw_w3
  replace HS := Lib.hid (HS.out.below hb_w4)
  replace HT := Lib.hid (HT.out.below hb_w4)
  replace HA := Lib.hid (HA.out.below hb_w4)
  replace HB := Lib.hid (HB.out.below hb_w4)
  clear hb_w4 
  clear HB
  obtain ⟨xa, xc, rfl, hxl, hxm⟩ := Ins.formI HA.out
  unfold maxLen at hxm
  cases hv : fvalid fs
  · have hD0 : D.length = 0 := by rw [← HD.out, deads, hv]; rfl
    rw [hD0]
    go_wp2_with fail
    refine (specFV_b HS.out hv).mono ?_
    rintro e w5 ⟨rfl, hb_w5⟩
    have hw_w5 := hw_w4.trans (hb_w5.mono hw_w4.size)
    clear hw_w4
    replace HS := Lib.hid (HS.out.below hb_w5)
    replace HT := Lib.hid (HT.out.below hb_w5)
    replace HA := Lib.hid (HA.out.below hb_w5)
    clear hb_w5 
    go_wp2_with fail
    refine (alive_any _).mono ?_
    rintro e w6 ⟨rfl, hb_w6⟩
    have hw_w6 := hw_w5.trans (hb_w6.mono hw_w5.size)
    clear hw_w5
    replace HS := Lib.hid (HS.out.below hb_w6)
    replace HT := Lib.hid (HT.out.below hb_w6)
    replace HA := Lib.hid (HA.out.below hb_w6)
    clear hb_w6 
    go_wp2
    go_ret
    exact ⟨rfl, hw_w6⟩
  · go_wp2_with fail
    refine (specFV_b HS.out hv).mono ?_
    rintro e w7 ⟨rfl, hb_w7⟩
    have hw_w7 := hw_w4.trans (hb_w7.mono hw_w4.size)
    clear hw_w4
    replace HS := Lib.hid (HS.out.below hb_w7)
    replace HT := Lib.hid (HT.out.below hb_w7)
    replace HA := Lib.hid (HA.out.below hb_w7)
    clear hb_w7 
    have hpb : ∀ (k' : Nat) b', (fbx fs)[k']? = some b' → b'.length ≤ 100 ∧ ∀ (j : Nat) xs, b'[j]? = some xs → xs.length ≤ 1000 := fun k' b' hb' => by
      rw [fbx, hv] at hb'
      simp only [if_true, fboxes, List.getElem?_map, Option.map_eq_some_iff] at hb'
      obtain ⟨f, hf, rfl⟩ := hb'
      exact ⟨by have := (HOK.out k' f hf).1; omega, fun j xs hx => by have := (HOK.out k' f hf).2 j xs hx; omega⟩
    have hpl : (fbx fs).length ≤ 100 := by
      rw [fbx, hv]; simp [fboxes]; omega
    have HPB := Lib.hid hpb
    have HPL := Lib.hid hpl
    clear hpb hpl
    go_wp2_with fail
    refine (implFB_any fs _ _ HS.out HT.out).mono ?_
    rintro e w8 ⟨v4, rfl, hx4, hb_w8⟩
    have hw_w8 := hw_w7.trans (hb_w8.mono hw_w7.size)
    clear hw_w7
    replace HS := Lib.hid (HS.out.below hb_w8)
    replace HT := Lib.hid (HT.out.below hb_w8)
    replace HA := Lib.hid (HA.out.below hb_w8)
    have HFB := Lib.hid (hx4)
    clear hb_w8 hx4
    go_wp2_with fail
    refine (probe_any (fbx fs) v4 sd _ HFB.out hsd HPL.out HPB.out).mono ?_
    rintro e w9 ⟨⟨pa, pb, pc, pd⟩, rfl, hb_w9⟩
    have hw_w9 := hw_w8.trans (hb_w9.mono hw_w8.size)
    clear hw_w8
    replace HS := Lib.hid (HS.out.below hb_w9)
    replace HT := Lib.hid (HT.out.below hb_w9)
    replace HA := Lib.hid (HA.out.below hb_w9)
    replace HFB := Lib.hid (HFB.out.below hb_w9)
    clear hb_w9 
    clear HFB
    obtain ⟨d, hd⟩ : ∃ d, dby fs ⟨pa, pb, pc, pd⟩ = d := ⟨_, rfl⟩
    have HDB := Lib.hid hd
    go_wp2_with fail
    refine (implDB_b HS.out HT.out hd).mono ?_
    rintro e w10 ⟨rfl, hb_w10⟩
    have hw_w10 := hw_w9.trans (hb_w10.mono hw_w9.size)
    clear hw_w9
    replace HS := Lib.hid (HS.out.below hb_w10)
    replace HT := Lib.hid (HT.out.below hb_w10)
    replace HA := Lib.hid (HA.out.below hb_w10)
    clear hb_w10 
    have HV := Lib.hid hv
    have HDD := Lib.hid (show deadl fs fs.length = D by rw [← HD.out, deads, hv]; rfl)
    clear hv hd HPB HPL
    obtain ⟨n, hn⟩ : ∃ n, fs.length = n := ⟨_, rfl⟩
    obtain ⟨dn, hdn⟩ : ∃ dn, D.length = dn := ⟨_, rfl⟩
    have HN := Lib.hid hn
    have HDN := Lib.hid hdn
    rw [hn] at HS HDD hlc_sa ⊢
    rw [hdn] at HA hxl ⊢
    have hn61 : n ≤ 61 := by omega
    clear hn hdn hlen HOK HFN HD
    go_wp2_with fail
    go_loopw [8, 9] (fun a i wr => ∃ k m : Nat, k ≤ n ∧ i = .int .i64 k ∧ a = .int .i64 m ∧ Hid ((deadl fs k).length = m) ∧ Below w10.heap.size w10 wr) (fun _ i _ => n - (intOf i).toNat)
    case atStart => exact ⟨0, 0, by omega, rfl, rfl, Lib.hid rfl, Below.refl _ _⟩
    case round =>
      obtain ⟨k, m, hk, rfl, rfl, HM, hbr⟩ := hrel
      have HBB := Lib.hid (Below.refl w10.heap.size w10)
      have hw_wr := hw_w10.trans (hbr.mono hw_w10.size)
      clear hw_w10
      replace HS := Lib.hid (HS.out.below hbr)
      replace HT := Lib.hid (HT.out.below hbr)
      replace HA := Lib.hid (HA.out.below hbr)
      replace HBB := Lib.hid (HBB.out.trans (hbr.mono HBB.out.size))
      clear hbr
      have hmk : m ≤ k := by rw [← HM.out]; exact deadl_len fs k
      have m0 : (0 : Int) ≤ (m : Int) := by omega
      have k0 : (0 : Int) ≤ (k : Int) := by omega
      by_cases hlt : k < n
      · have k1 : (k : Int) < (n : Int) := by omega
        have HC := Lib.hid (dead_here (fs := fs) hlt)
        have HU := Lib.hid (deadl_succ_len (fs := fs) (k := k))
        obtain ⟨L, hL⟩ : ∃ L, livef fs (k : Int) = L := ⟨_, rfl⟩
        obtain ⟨q, hq⟩ : ∃ q, (livep fs (k : Int)).isSome = q := ⟨_, rfl⟩
        have HLV := Lib.hid (dead_live HV.out (by rw [HN.out]; exact hlt) hL hq)
        have HL := Lib.hid hL
        have HQ := Lib.hid hq
        clear hL hq hlt
        rcases HC.out with ⟨hr, hx⟩ | ⟨hr, hx⟩ | ⟨hr, x, hx, hxk⟩
        · have HR := Lib.hid hr
          rw [HDD.out, HM.out] at hx
          have hml := (List.getElem?_eq_some_iff.1 hx).1
          rw [HDN.out] at hml
          have mm : (m : Int) < (dn : Int) := by omega
          obtain ⟨db, dof, rfl, hdb, hdc⟩ := Ins.atI HA.out hx
          clear hr hx hml HC
          go_wp2_with fail
          refine (implLivePart_e HS.out HT.out HL.out HQ.out).mono ?_
          rintro e w11 ⟨v5, rfl, ho5, hb_w11⟩
          have hw_w11 := hw_wr.trans (hb_w11.mono hw_wr.size)
          clear hw_wr
          replace HS := Lib.hid (HS.out.below hb_w11)
          replace HT := Lib.hid (HT.out.below hb_w11)
          replace HA := Lib.hid (HA.out.below hb_w11)
          replace HBB := Lib.hid (HBB.out.trans (hb_w11.mono HBB.out.size))
          have HLB := Lib.hid (ho5.bxs)
          clear hb_w11 ho5
          obtain ⟨la, lc, rfl, hlc_la, hcm_la⟩ := HLB.out.form
          unfold maxLen at hcm_la
          have hq9 : q = true ∧ L.length = 0 := by have h9 := HLV.out; rw [HR.out, Bool.and_eq_true, decide_eq_true_eq] at h9; exact h9
          obtain ⟨rfl, hl0⟩ := hq9
          rw [hl0]
          have hdk : (d == (k : Int)) = false := by have h9 := dead_no HV.out (by rw [HN.out]; omega) HR.out ⟨pa, pb, pc, pd⟩; rw [HDB.out] at h9; exact beq_eq_false_iff_ne.2 h9
          go_wp2
          go_roundw
          case rel => exact ⟨k + 1, (m + 1), by omega, by go_num, by go_num, Lib.hid (by rw [HU.out, HM.out, HR.out]; rfl), HBB.out⟩
          case measure => simp [intOf]; omega
        · have HR := Lib.hid hr
          rw [HDD.out, HM.out] at hx
          rw [HDN.out] at hx
          have mm : ¬ (m : Int) < (dn : Int) := by omega
          clear hr hx HC
          go_wp2_with fail
          refine (implLivePart_e HS.out HT.out HL.out HQ.out).mono ?_
          rintro e w12 ⟨v5, rfl, ho5, hb_w12⟩
          have hw_w12 := hw_wr.trans (hb_w12.mono hw_wr.size)
          clear hw_wr
          replace HS := Lib.hid (HS.out.below hb_w12)
          replace HT := Lib.hid (HT.out.below hb_w12)
          replace HA := Lib.hid (HA.out.below hb_w12)
          replace HBB := Lib.hid (HBB.out.trans (hb_w12.mono HBB.out.size))
          have HLB := Lib.hid (ho5.bxs)
          clear hb_w12 ho5
          obtain ⟨la, lc, rfl, hlc_la, hcm_la⟩ := HLB.out.form
          unfold maxLen at hcm_la
          cases q
          · go_wp2
            go_roundw
            case rel => exact ⟨k + 1, m, by omega, by go_num, by go_num, Lib.hid (by rw [HU.out, HM.out, HR.out]; rfl), HBB.out⟩
            case measure => simp [intOf]; omega
          · have hl0 : ((L.length : Int) == 0) = false := by have h9 := HLV.out; rw [HR.out, Bool.true_and, decide_eq_false_iff_not] at h9; exact beq_eq_false_iff_ne.2 (by omega)
            generalize L.length = ll at *
            go_wp2
            go_roundw
            case rel => exact ⟨k + 1, m, by omega, by go_num, by go_num, Lib.hid (by rw [HU.out, HM.out, HR.out]; rfl), HBB.out⟩
            case measure => simp [intOf]; omega
        · have HR := Lib.hid hr
          rw [HDD.out, HM.out] at hx
          have hml := (List.getElem?_eq_some_iff.1 hx).1
          rw [HDN.out] at hml
          have mm : (m : Int) < (dn : Int) := by omega
          obtain ⟨db, dof, rfl, hdb, hdc⟩ := Ins.atI HA.out hx
          have hne : (x == (k : Int)) = false := beq_eq_false_iff_ne.2 (by omega)
          clear hxk
          clear hr hx hml HC
          go_wp2_with fail
          refine (implLivePart_e HS.out HT.out HL.out HQ.out).mono ?_
          rintro e w13 ⟨v5, rfl, ho5, hb_w13⟩
          have hw_w13 := hw_wr.trans (hb_w13.mono hw_wr.size)
          clear hw_wr
          replace HS := Lib.hid (HS.out.below hb_w13)
          replace HT := Lib.hid (HT.out.below hb_w13)
          replace HA := Lib.hid (HA.out.below hb_w13)
          replace HBB := Lib.hid (HBB.out.trans (hb_w13.mono HBB.out.size))
          have HLB := Lib.hid (ho5.bxs)
          clear hb_w13 ho5
          obtain ⟨la, lc, rfl, hlc_la, hcm_la⟩ := HLB.out.form
          unfold maxLen at hcm_la
          cases q
          · go_wp2
            go_roundw
            case rel => exact ⟨k + 1, m, by omega, by go_num, by go_num, Lib.hid (by rw [HU.out, HM.out, HR.out]; rfl), HBB.out⟩
            case measure => simp [intOf]; omega
          · have hl0 : ((L.length : Int) == 0) = false := by have h9 := HLV.out; rw [HR.out, Bool.true_and, decide_eq_false_iff_not] at h9; exact beq_eq_false_iff_ne.2 (by omega)
            generalize L.length = ll at *
            go_wp2
            go_roundw
            case rel => exact ⟨k + 1, m, by omega, by go_num, by go_num, Lib.hid (by rw [HU.out, HM.out, HR.out]; rfl), HBB.out⟩
            case measure => simp [intOf]; omega
      · obtain rfl : k = n := by omega
        have hmd : m = dn := by rw [← HM.out, HDD.out, HDN.out]
        subst hmd
        go_wp2
        go_ret
        exact ⟨rfl, hw_wr⟩
end Go.Proofs.YtibanpeiigbofaaDoor
