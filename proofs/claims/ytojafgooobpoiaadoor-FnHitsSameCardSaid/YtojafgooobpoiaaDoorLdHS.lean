/- The law FnHitsSame: the walk. -/
import Derived.Test.YtojafgooobpoiaaDoorLdBH
import Derived.Test.YtojafgooobpoiaaDoorFdI
import Derived.Test.YtojafgooobpoiaaDoorDxAJ
namespace Go.Proofs.YtojafgooobpoiaaDoor
open Go.RowKit
set_option maxHeartbeats 4000000 in
set_option maxRecDepth 100000 in
theorem law_FnHitsSame (bs : List Int) (v : Value) (w : World) (h : CodeAt w v bs) (ht : Tab w) :
    Calls Tryd.prog 7 #[v] w fun e w' => e = .returned (.bool true) ∧ Below w.heap.size w w' := by
  obtain ⟨a, cap, rfl, l1, l2, -⟩ := code_cells h
  unfold maxLen at l2
  by_cases hl : 1048576 < bs.length
  · go_enter Tryd.func7, Tryd.ntmps7
    go_wp2
    go_ret
    exact ⟨rfl, by (repeat' (first | with_reducible exact Below.refl _ _ | with_reducible assumption | with_reducible refine Below.setCell ?_ ?_ _ | with_reducible refine Below.alloc ?_ ?_ _ | with_reducible refine Below.drew ?_ | with_reducible refine belDrewN ?_ _ | with_reducible refine Below.trans ?_ (Below.mono (by assumption) ?_) | omega | (simp; omega) | (simp; done)))⟩
  go_enter Tryd.func7, Tryd.ntmps7
  go_wp2_with fail
  refine (drawBH_any _ _ _ h).mono ?_
  rintro e w1 ⟨v0, u0, fs, cs, rfl, ⟨ho, hlen, hok, hb_w1⟩, hu0⟩
  have hw_w1 := hb_w1
  have HS := Lib.hid (ho.fts.mono (Nat.zero_le _))
  have HT := Lib.hid (ht.below hb_w1)
  have HOK := Lib.hid hok
  have HFN := Lib.hid (drawn_ftN hlen hok)
  clear hb_w1 ho hok h
  obtain ⟨sa, sc, rfl, hlc_sa, hcm_sa⟩ := HS.out.form
  unfold maxLen at hcm_sa
  have HU := Lib.hid (hu0)
  clear hu0
  obtain ⟨R, hR⟩ : ∃ R, byh fs cs = R := ⟨_, rfl⟩
  have HR := Lib.hid hR
  clear hR
  go_wp2_with fail
  refine (implByHits_e HS.out HU.out HT.out HR.out).mono ?_
  rintro e w2 ⟨v2, rfl, ho, hb_w2⟩
  have hw_w2 := hw_w1.trans (hb_w2.mono hw_w1.size)
  clear hw_w1
  replace HS := Lib.hid (HS.out.below hb_w2)
  replace HT := Lib.hid (HT.out.below hb_w2)
  replace HU := Lib.hid (HU.out.below hb_w2)
  have HX := Lib.hid (ho.fts)
  clear hb_w2 ho
  obtain ⟨xa, xc, rfl, hlc_xa, hcm_xa⟩ := HX.out.form
  unfold maxLen at hcm_xa
  go_wp2_with fail
  refine (specByHits_e HS.out HU.out HFN.out HR.out).mono ?_
  rintro e w3 ⟨v3, rfl, ho, hb_w3⟩
  have hw_w3 := hw_w2.trans (hb_w3.mono hw_w2.size)
  clear hw_w2
  replace HS := Lib.hid (HS.out.below hb_w3)
  replace HT := Lib.hid (HT.out.below hb_w3)
  replace HU := Lib.hid (HU.out.below hb_w3)
  replace HX := Lib.hid (HX.out.below hb_w3)
  have HY := Lib.hid (ho)
  clear hb_w3 ho
  obtain ⟨ya, yc, rfl, hlc_ya, hcm_ya⟩ := HY.out.form
  unfold maxLen at hcm_ya
  go_wp2_with fail
  refine (sameFlats_e HX.out HY.out).mono ?_
  rintro e w4 ⟨rfl, hb_w4⟩
  have hw_w4 := hw_w3.trans (hb_w4.mono hw_w3.size)
  clear hw_w3
  replace HS := Lib.hid (HS.out.below hb_w4)
  replace HT := Lib.hid (HT.out.below hb_w4)
  replace HU := Lib.hid (HU.out.below hb_w4)
  replace HX := Lib.hid (HX.out.below hb_w4)
  replace HY := Lib.hid (HY.out.below hb_w4)
  clear hb_w4 
  clear HY
  clear HU
  by_cases hR0 : R = []
  · subst hR0
    go_wp2_with fail
    refine (alive_any _).mono ?_
    rintro e w5 ⟨rfl, hb_w5⟩
    have hw_w5 := hw_w4.trans (hb_w5.mono hw_w4.size)
    clear hw_w4
    replace HS := Lib.hid (HS.out.below hb_w5)
    replace HT := Lib.hid (HT.out.below hb_w5)
    replace HX := Lib.hid (HX.out.below hb_w5)
    clear hb_w5 
    go_wp2
    go_ret
    exact ⟨rfl, hw_w5⟩
  · have hjf : ∀ p, jfl fs false p = jfl R false p := fun p => by
      rcases byh_cases fs cs with h | ⟨-, -, h⟩
      · exact absurd (by rw [← HR.out, h]) hR0
      · rw [← HR.out, h]
    have hpos := List.length_pos_iff.2 hR0
    have hne0 : ((R.length : Int) == 0) = false := beq_eq_false_iff_ne.2 (by omega)
    obtain ⟨d, hd⟩ : ∃ d, fsame fs false R false = d := ⟨_, rfl⟩
    have hd0 : d ≠ 0 := by rw [← hd]; exact fsame_equal hjf
    have hdb : (d != 0) = true := by simpa using hd0
    have hdc : (d == 0) = false := by simpa using hd0
    clear hjf hR0 hpos
    go_wp2_with fail
    refine (implFlatsSame_e HS.out HX.out HT.out hd).mono ?_
    rintro e w6 ⟨rfl, hb_w6⟩
    have hw_w6 := hw_w4.trans (hb_w6.mono hw_w4.size)
    clear hw_w4
    replace HS := Lib.hid (HS.out.below hb_w6)
    replace HT := Lib.hid (HT.out.below hb_w6)
    replace HX := Lib.hid (HX.out.below hb_w6)
    clear hb_w6 
    go_wp2_with fail
    refine (alive_any _).mono ?_
    rintro e w7 ⟨rfl, hb_w7⟩
    have hw_w7 := hw_w6.trans (hb_w7.mono hw_w6.size)
    clear hw_w6
    replace HS := Lib.hid (HS.out.below hb_w7)
    replace HT := Lib.hid (HT.out.below hb_w7)
    replace HX := Lib.hid (HX.out.below hb_w7)
    clear hb_w7 
    go_wp2
    go_ret
    exact ⟨rfl, hw_w7⟩
end Go.Proofs.YtojafgooobpoiaaDoor
