/- The law FnLivePart: the walk. -/
import Derived.Test.YtibanpeiigbofaaDoorDx
import Derived.Test.YtibanpeiigbofaaDoorDxBT
import Derived.Test.YtibanpeiigbofaaDoorLvS
import Derived.Test.YtibanpeiigbofaaDoorRgH
import Derived.Test.YtibanpeiigbofaaDoorDxAJ
namespace Go.Proofs.YtibanpeiigbofaaDoor
open Go.RowKit
theorem livep_dby {R : List Bx} {gs : List Ft} {n : Int} {p : Pk} (h : livep gs n = some R) : (rvalid R && p.ok && R.any (fun z => bhas z p)) = (dby gs p == n) := by
  have hr := livep_valid h
  unfold livep at h
  split at h
  · rename_i hc
    rw [Bool.and_eq_true, inB_iff] at hc
    obtain ⟨hv, h0, h1⟩ := hc
    obtain ⟨k, rfl⟩ := Int.eq_ofNat_of_zero_le h0
    obtain ⟨f, hf⟩ : ∃ f, gs[k]? = some f := ⟨_, List.getElem?_eq_getElem (by omega)⟩
    rw [hr, Bool.true_and]
    cases hp : p.ok
    · have : dby gs p = -1 := by unfold dby; rw [hp]; simp
      rw [this, Bool.false_and]
      exact (beq_eq_false_iff_ne.2 (by omega)).symm
    · rw [Bool.true_and, live_dby hv hf h hp]
      rfl
  · cases h
set_option maxHeartbeats 4000000 in
set_option maxRecDepth 100000 in
theorem law_FnLivePart (bs bs2 : List Int) (v v2 : Value) (w : World) (h : CodeAt w v bs) (h2 : CodeAt w v2 bs2) (ht : Tab w) :
    Calls Tryd.prog 14 #[v, v2] w fun e w' => e = .returned (.bool true) ∧ Below w.heap.size w w' := by
  obtain ⟨a, cap, rfl, l1, l2, -⟩ := code_cells h
  obtain ⟨a2, cap2, rfl, m1, m2, -⟩ := code_cells h2
  unfold maxLen at l2 m2
  by_cases hl : 1048576 < bs.length
  · go_enter Tryd.func14, Tryd.ntmps14
    go_wp2
    go_ret
    exact ⟨rfl, by (repeat' (first | with_reducible exact Below.refl _ _ | with_reducible assumption | with_reducible refine Below.setCell ?_ ?_ _ | with_reducible refine Below.alloc ?_ ?_ _ | with_reducible refine Below.drew ?_ | with_reducible refine belDrewN ?_ _ | with_reducible refine Below.trans ?_ (Below.mono (by assumption) ?_) | omega | (simp; omega) | (simp; done)))⟩
  by_cases hl2 : 1048576 < bs2.length
  · go_enter Tryd.func14, Tryd.ntmps14
    go_wp2
    go_ret
    exact ⟨rfl, by (repeat' (first | with_reducible exact Below.refl _ _ | with_reducible assumption | with_reducible refine Below.setCell ?_ ?_ _ | with_reducible refine Below.alloc ?_ ?_ _ | with_reducible refine Below.drew ?_ | with_reducible refine belDrewN ?_ _ | with_reducible refine Below.trans ?_ (Below.mono (by assumption) ?_) | omega | (simp; omega) | (simp; done)))⟩
  have hsd : bs2.length ≤ 1048576 := by omega
  generalize bs2.length = sd at *
  go_enter Tryd.func14, Tryd.ntmps14
  go_wp2_with fail
  refine (drawLP_any _ _ _ h).mono ?_
  rintro e w1 ⟨v0, fs, n, rfl, ⟨ho, hlen, hok, hb_w1⟩, hn0, hn1⟩
  have hw_w1 := hb_w1
  have HS := Lib.hid (ho.fts.mono (Nat.zero_le _))
  have HT := Lib.hid (ht.below hb_w1)
  have HOK := Lib.hid hok
  have HFN := Lib.hid (drawn_ftN hlen hok)
  clear hb_w1 ho hok h
  obtain ⟨sa, sc, rfl, hlc_sa, hcm_sa⟩ := HS.out.form
  unfold maxLen at hcm_sa
  obtain ⟨O, hO⟩ : ∃ O, livep fs n = O := ⟨_, rfl⟩
  have HO := Lib.hid hO
  obtain ⟨R, hR⟩ : ∃ R, livef fs n = R := ⟨_, rfl⟩
  have HR := Lib.hid hR
  have HQ := Lib.hid (show (livep fs n).isSome = O.isSome by rw [hO])
  clear hO hR
  go_wp2_with fail
  refine (implLivePart_e HS.out HT.out HR.out HQ.out).mono ?_
  rintro e w2 ⟨v2, rfl, ho, hb_w2⟩
  have hw_w2 := hw_w1.trans (hb_w2.mono hw_w1.size)
  clear hw_w1
  replace HS := Lib.hid (HS.out.below hb_w2)
  replace HT := Lib.hid (HT.out.below hb_w2)
  have HA := Lib.hid (ho.bxs)
  clear hb_w2 ho
  obtain ⟨xa, xc, rfl, hlc_xa, hcm_xa⟩ := HA.out.form
  unfold maxLen at hcm_xa
  go_wp2_with fail
  refine (specLivePart_e HS.out HFN.out HR.out HQ.out).mono ?_
  rintro e w3 ⟨v3, rfl, ho, hb_w3⟩
  have hw_w3 := hw_w2.trans (hb_w3.mono hw_w2.size)
  clear hw_w2
  replace HS := Lib.hid (HS.out.below hb_w3)
  replace HT := Lib.hid (HT.out.below hb_w3)
  replace HA := Lib.hid (HA.out.below hb_w3)
  have HB := Lib.hid (ho)
  clear hb_w3 ho
  obtain ⟨ya, yc, rfl, hlc_ya, hcm_ya⟩ := HB.out.form
  unfold maxLen at hcm_ya
  go_wp2_with fail
  refine (sameBoxes_e HA.out HB.out).mono ?_
  rintro e w4 ⟨rfl, hb_w4⟩
  have hw_w4 := hw_w3.trans (hb_w4.mono hw_w3.size)
  clear hw_w3
  replace HS := Lib.hid (HS.out.below hb_w4)
  replace HT := Lib.hid (HT.out.below hb_w4)
  replace HA := Lib.hid (HA.out.below hb_w4)
  replace HB := Lib.hid (HB.out.below hb_w4)
  clear hb_w4 
  clear HB
  cases O with
  | none =>
    have HR0 := Lib.hid (show R.length = 0 by rw [← HR.out, livef, HO.out]; rfl)
    rw [HR0.out]
    go_wp2_with fail
    refine (alive_any _).mono ?_
    rintro e w5 ⟨rfl, hb_w5⟩
    have hw_w5 := hw_w4.trans (hb_w5.mono hw_w4.size)
    clear hw_w4
    replace HS := Lib.hid (HS.out.below hb_w5)
    replace HT := Lib.hid (HT.out.below hb_w5)
    replace HA := Lib.hid (HA.out.below hb_w5)
    clear hb_w5 
    go_wp2
    go_ret
    exact ⟨rfl, hw_w5⟩
  | some R2 =>
    obtain rfl : R2 = R := by rw [← HR.out, livef, HO.out]; rfl
    have hv : fvalid fs = true := by cases e : fvalid fs; { have := HO.out; rw [livep_no (.inl e)] at this; cases this }; rfl
    have HE := Lib.hid (fun p => livep_dby (p := p) HO.out)
    have hpb : ∀ (k' : Nat) b', (fbx fs)[k']? = some b' → b'.length ≤ 100 ∧ ∀ (j : Nat) xs, b'[j]? = some xs → xs.length ≤ 1000 := fun k' b' hb' => by
      rw [fbx, hv] at hb'
      simp only [if_true, fboxes, List.getElem?_map, Option.map_eq_some_iff] at hb'
      obtain ⟨f, hf, rfl⟩ := hb'
      exact ⟨by have := (HOK.out k' f hf).1; omega, fun j xs hx => by have := (HOK.out k' f hf).2 j xs hx; omega⟩
    have hpl : (fbx fs).length ≤ 100 := by
      rw [fbx, hv]; simp [fboxes]; omega
    have HPB := Lib.hid hpb
    have HPL := Lib.hid hpl
    clear hpb hpl
    go_wp2_with fail
    refine (implFB_any fs _ _ HS.out HT.out).mono ?_
    rintro e w6 ⟨v4, rfl, hx4, hb_w6⟩
    have hw_w6 := hw_w4.trans (hb_w6.mono hw_w4.size)
    clear hw_w4
    replace HS := Lib.hid (HS.out.below hb_w6)
    replace HT := Lib.hid (HT.out.below hb_w6)
    replace HA := Lib.hid (HA.out.below hb_w6)
    have HFB := Lib.hid (hx4)
    clear hb_w6 hx4
    go_wp2_with fail
    refine (probe_any (fbx fs) v4 sd _ HFB.out hsd HPL.out HPB.out).mono ?_
    rintro e w7 ⟨⟨pa, pb, pc, pd⟩, rfl, hb_w7⟩
    have hw_w7 := hw_w6.trans (hb_w7.mono hw_w6.size)
    clear hw_w6
    replace HS := Lib.hid (HS.out.below hb_w7)
    replace HT := Lib.hid (HT.out.below hb_w7)
    replace HA := Lib.hid (HA.out.below hb_w7)
    replace HFB := Lib.hid (HFB.out.below hb_w7)
    clear hb_w7 
    clear HFB
    obtain ⟨W, hW⟩ : ∃ W, w7.alloc (.cells #[.int .i64 pa, .int .i64 pb, .int .i64 pc, .int .i64 pd] 39) = W := ⟨_, rfl⟩
    have hal : Below w7.heap.size w7 W := by rw [← hW]; exact (Below.refl _ _).alloc (Nat.le_refl _) _
    have hbx : Box4 W w7.heap.size pa pb pc pd := by rw [← hW]; exact Box4.new w7 pa pb pc pd _
    have hw_W := hw_w7.trans (hal.mono hw_w7.size)
    clear hw_w7
    replace HS := Lib.hid (HS.out.below hal)
    replace HT := Lib.hid (HT.out.below hal)
    replace HA := Lib.hid (HA.out.below hal)
    have HP := Lib.hid (hbx)
    clear hal hbx
    obtain ⟨q, hq1⟩ : ∃ q, (rvalid R2 && Pk.ok ⟨pa, pb, pc, pd⟩ && R2.any (fun z => bhas z ⟨pa, pb, pc, pd⟩)) = q := ⟨_, rfl⟩
    obtain ⟨d, hd⟩ : ∃ d, dby fs ⟨pa, pb, pc, pd⟩ = d := ⟨_, rfl⟩
    have hdq : (d == n) = q := by rw [← hd, ← hq1, HE.out]
    have hqq : (q == q) = true := by cases q <;> rfl
    obtain ⟨zl, z0, z1, z2, z3, zf⟩ := HP.out
    go_wp2_with fail
    refine wp_region_over (by kernel_rfl) (by kernel_rfl) (fun ov => ?_); have ov0 := fun x => ov x (w7.heap.size) (by (try simp) <;> omega); clear ov; (iterate 9 (iterate 8 (try go_big_quiet_step (first | (go_at_call 66; with_reducible exact callsOver (implRH_b (HA.out.below (over_below _ _)) (HT.out.below (over_below _ _)) hq1)) | (go_at_call 61; with_reducible exact callsOver (implDB_b (HS.out.below (over_below _ _)) (HT.out.below (over_below _ _)) hd)))))); refine wpQuiet_nil ?_; intro wa hw9; have hb_wa := below_over hw9; clear hw9 ov0
    have hw_wa := hw_W.trans (hb_wa.mono hw_W.size)
    clear hw_W
    replace HS := Lib.hid (HS.out.below hb_wa)
    replace HT := Lib.hid (HT.out.below hb_wa)
    replace HA := Lib.hid (HA.out.below hb_wa)
    replace HP := Lib.hid (Box4.bel HP.out hb_wa)
    clear hb_wa
    go_wp2
    go_ret
    exact ⟨rfl, hw_wa⟩
end Go.Proofs.YtibanpeiigbofaaDoor
