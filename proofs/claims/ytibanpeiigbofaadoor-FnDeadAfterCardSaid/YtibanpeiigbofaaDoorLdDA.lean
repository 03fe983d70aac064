/- The law FnDeadAfter: the walk. -/
import Derived.Test.YtibanpeiigbofaaDoorDrF
import Derived.Test.YtibanpeiigbofaaDoorDeP
import Derived.Test.YtibanpeiigbofaaDoorSaI
import Derived.Test.YtibanpeiigbofaaDoorDxAJ
import Derived.Test.YtibanpeiigbofaaDoorDxBT
import Derived.Test.YtibanpeiigbofaaDoorBAi
import Derived.Test.YtibanpeiigbofaaDoorDeS
import Derived.Test.YtibanpeiigbofaaDoorDrS
import Derived.Test.YtibanpeiigbofaaDoorPaS
namespace Go.Proofs.YtibanpeiigbofaaDoor
open Go.RowKit
theorem litRF1 {base : Nat} {w : World} {s : Value} {c : Bool} (h : base ≤ w.heap.size) : OwnSl base 75 2 RF.enc (w.alloc (.cells #[s, .bool c] 75)) (.slice (some ⟨w.heap.size, 0, none⟩) 1 1) [⟨s, c⟩] := by
  exact ⟨by simp, .inr ⟨w.heap.size, 1, #[s, .bool c], rfl, h, heap_alloc_new w _, Nat.le_refl _, by simp [maxLen], by simp, by simp [RF.enc]⟩⟩
/-- A list of one rule, and others put behind it. -/
theorem ft_cons {lo lo' : Nat} {w : World} {s v : Value} {b : Bx} {c : Bool} {fs : List Ft} (ty : TypeId) (hb : Rws lo w s b) (hs : Fts lo' w v fs) (hl : fs.length ≤ 1000) :
    ∃ v' w', (Builtin.append_ #[24, 24] ty #[.slice (some ⟨w.heap.size, 0, none⟩) 1 1, v]).run Tryd.prog (w.alloc (.cells #[s, .bool c] 75)) = .ok v' w' ∧ Fts 0 w' v' (⟨b, c⟩ :: fs) ∧ Below w.heap.size w w' := by
  have hal : Below w.heap.size w (w.alloc (.cells #[s, .bool c] 75)) := (Below.refl _ _).alloc (Nat.le_refl _) _
  have hP : ∀ k, (some k = (Value.slice (some ⟨w.heap.size, 0, none⟩) 1 1).ownBlock ∨ False) → w.heap.size ≤ k := fun k hk => by
    rcases hk with hk | hk
    · simp [Value.ownBlock] at hk; omega
    · exact hk.elim
  obtain ⟨rs, h1, h2⟩ := hs
  have ho : FtX (fun _ => False) w.heap.size (w.alloc (.cells #[s, .bool c] 75)) (.slice (some ⟨w.heap.size, 0, none⟩) 1 1) [⟨b, c⟩] := ⟨[⟨s, c⟩], litRF1 (Nat.le_refl _), rfl, fun k x y hx hy => by
    match k, hx, hy with
    | 0, hx, hy =>
      cases hx; cases hy
      exact ⟨RwV.old hb hal hP, rfl⟩
    | k + 1, hx, hy => simp at hx⟩
  obtain ⟨v', w', hrun, hG, hgr, -⟩ := ft_append (gs := fs) ty ho (h1.below hal).at (h2.mono (fun _ _ g => ⟨RwV.old g.1 hal hP, g.2⟩)) (by simp; omega) (by simp)
  exact ⟨v', w', hrun, hG.fts, hal.grown hgr (by simp) (fun z hz => (ho.lt z hz).1)⟩
set_option maxHeartbeats 4000000 in
set_option maxRecDepth 100000 in
theorem law_FnDeadAfter (bs : List Int) (v : Value) (w : World) (h : CodeAt w v bs) (ht : Tab w) :
    Calls Tryd.prog 12 #[v] w fun e w' => e = .returned (.bool true) ∧ Below w.heap.size w w' := by
  obtain ⟨a, cap, rfl, l1, l2, -⟩ := code_cells h
  unfold maxLen at l2
  by_cases hl : 1048576 < bs.length
  · go_enter Tryd.func12, Tryd.ntmps12
    go_wp2
    go_ret
    exact ⟨rfl, by (repeat' (first | with_reducible exact Below.refl _ _ | with_reducible assumption | with_reducible refine Below.setCell ?_ ?_ _ | with_reducible refine Below.alloc ?_ ?_ _ | with_reducible refine Below.drew ?_ | with_reducible refine belDrewN ?_ _ | with_reducible refine Below.trans ?_ (Below.mono (by assumption) ?_) | omega | (simp; omega) | (simp; done)))⟩
  go_enter Tryd.func12, Tryd.ntmps12
  go_wp2_with fail
  refine (drawDF_any _ _ _ h).mono ?_
  rintro e w1 ⟨v0, fs, rfl, ho, hlen, hok, hb_w1⟩
  have hw_w1 := hb_w1
  have HS := Lib.hid (ho.fts.mono (Nat.zero_le _))
  have HT := Lib.hid (ht.below hb_w1)
  have HOK := Lib.hid hok
  have HFN := Lib.hid (drawn_ftN hlen hok)
  clear hb_w1 ho hok h
  obtain ⟨sa, sc, rfl, hlc_sa, hcm_sa⟩ := HS.out.form
  unfold maxLen at hcm_sa
  obtain ⟨D, hD⟩ : ∃ D, deads fs = D := ⟨_, rfl⟩
  have HD := Lib.hid hD
  clear hD
  go_wp2_with fail
  refine (implDeadFlats_e HS.out HT.out HD.out).mono ?_
  rintro e w2 ⟨v2, rfl, ho, hb_w2⟩
  have hw_w2 := hw_w1.trans (hb_w2.mono hw_w1.size)
  clear hw_w1
  replace HS := Lib.hid (HS.out.below hb_w2)
  replace HT := Lib.hid (HT.out.below hb_w2)
  have HA := Lib.hid (ho.rd)
  clear hb_w2 ho
  go_wp2_with fail
  refine (specDeadFlats_e HS.out HFN.out HD.out).mono ?_
  rintro e w3 ⟨v3, rfl, ho, hb_w3⟩
  have hw_w3 := hw_w2.trans (hb_w3.mono hw_w2.size)
  clear hw_w2
  replace HS := Lib.hid (HS.out.below hb_w3)
  replace HT := Lib.hid (HT.out.below hb_w3)
  replace HA := Lib.hid (HA.out.below hb_w3)
  have HB := Lib.hid (ho)
  clear hb_w3 ho
  go_wp2_with fail
  refine (sameInts_e HA.out HB.out).mono ?_
  rintro e w4 ⟨rfl, hb_w4⟩
  have hw_w4 := hw_w3.trans (hb_w4.mono hw_w3.size)
  clear hw_w3
  replace HS := Lib.hid (HS.out.below hb_w4)
  replace HT := Lib.hid (HT.out.below hb_w4)
  replace HA := Lib.hid (HA.out.below hb_w4)
  replace HB := Lib.hid (HB.out.below hb_w4)
  clear hb_w4 
  clear HA
  clear HB
  cases hv : fvalid fs
  · go_wp2_with fail
    refine (specFV_b HS.out hv).mono ?_
    rintro e w5 ⟨rfl, hb_w5⟩
    have hw_w5 := hw_w4.trans (hb_w5.mono hw_w4.size)
    clear hw_w4
    replace HS := Lib.hid (HS.out.below hb_w5)
    replace HT := Lib.hid (HT.out.below hb_w5)
    clear hb_w5 
    go_wp2_with fail
    refine (alive_any _).mono ?_
    rintro e w6 ⟨rfl, hb_w6⟩
    have hw_w6 := hw_w5.trans (hb_w6.mono hw_w5.size)
    clear hw_w5
    replace HS := Lib.hid (HS.out.below hb_w6)
    replace HT := Lib.hid (HT.out.below hb_w6)
    clear hb_w6 
    go_wp2
    go_ret
    exact ⟨rfl, hw_w6⟩
  · obtain ⟨q6, h6⟩ : ∃ q : Bool, ((fs.length : Int) == 60) = q := ⟨_, rfl⟩
    cases q6
    · have hl60 : fs.length < 60 := by have := fvalid_60 hv; have h7 := beq_eq_false_iff_ne.1 h6; omega
      have HDB := Lib.hid (deads_ball (c := true) hv hl60)
      clear hl60
      go_wp2_with fail
      refine (specFV_b HS.out hv).mono ?_
      rintro e w7 ⟨rfl, hb_w7⟩
      have hw_w7 := hw_w4.trans (hb_w7.mono hw_w4.size)
      clear hw_w4
      replace HS := Lib.hid (HS.out.below hb_w7)
      replace HT := Lib.hid (HT.out.below hb_w7)
      clear hb_w7 
      go_wp2_with fail
      refine (implBA_any _ HT.out).mono ?_
      rintro e w8 ⟨vb, rfl, hob, hb_w8⟩
      have hw_w8 := hw_w7.trans (hb_w8.mono hw_w7.size)
      clear hw_w7
      replace HS := Lib.hid (HS.out.below hb_w8)
      replace HT := Lib.hid (HT.out.below hb_w8)
      have HBA := Lib.hid (hob.rws)
      clear hb_w8 hob
      obtain ⟨ba, bc, rfl, -, -⟩ := HBA.out.form
      generalize ball.length = bl at *
      obtain ⟨v7, w7, hrun, hF, hb7⟩ := ft_cons (c := true) 24 HBA.out HS.out (by omega)
      have hrun2 := hrun
      go_wp2_with (at_builtin; refine wpList_append_run rfl _ _ 24 rfl rfl rfl hrun ?_)
      have hw_w7 := hw_w8.trans (hb7.mono hw_w8.size)
      clear hw_w8
      replace HS := Lib.hid (HS.out.below hb7)
      replace HT := Lib.hid (HT.out.below hb7)
      replace HBA := Lib.hid (HBA.out.below hb7)
      have HF := Lib.hid (hF)
      clear hb7 hF hrun hrun2
      obtain ⟨fa, fc, rfl, hlc_fa, hcm_fa⟩ := HF.out.form
      unfold maxLen at hcm_fa
      obtain ⟨D2, hD2⟩ : ∃ D2, deads (⟨ball, true⟩ :: fs) = D2 := ⟨_, rfl⟩
      have HD2 := Lib.hid hD2
      have hk1 : D2.length = fs.length := by rw [← hD2]; exact HDB.out.1
      obtain ⟨R2, hR2⟩ : ∃ R2, dropd (⟨ball, true⟩ :: fs) = R2 := ⟨_, rfl⟩
      have HR2 := Lib.hid hR2
      have hk2 : R2.length = 1 := by rw [← hR2]; exact HDB.out.2
      clear hD2 hR2
      go_wp2_with fail
      refine (implDeadFlats_e HF.out HT.out HD2.out).mono ?_
      rintro e w9 ⟨v8, rfl, ho, hb_w9⟩
      have hw_w9 := hw_w7.trans (hb_w9.mono hw_w7.size)
      clear hw_w7
      replace HS := Lib.hid (HS.out.below hb_w9)
      replace HT := Lib.hid (HT.out.below hb_w9)
      replace HBA := Lib.hid (HBA.out.below hb_w9)
      replace HF := Lib.hid (HF.out.below hb_w9)
      have HA := Lib.hid (ho.rd)
      clear hb_w9 ho
      obtain ⟨xa, xc, rfl, -⟩ := HA.out
      rw [hk1]
      go_wp2_with fail
      refine (implDropDead_e HF.out HT.out HR2.out).mono ?_
      rintro e w10 ⟨v9, rfl, ho, hb_w10⟩
      have hw_w10 := hw_w9.trans (hb_w10.mono hw_w9.size)
      clear hw_w9
      replace HS := Lib.hid (HS.out.below hb_w10)
      replace HT := Lib.hid (HT.out.below hb_w10)
      replace HBA := Lib.hid (HBA.out.below hb_w10)
      replace HF := Lib.hid (HF.out.below hb_w10)
      replace HA := Lib.hid (HA.out.below hb_w10)
      have HX := Lib.hid (ho.fts)
      clear hb_w10 ho
      obtain ⟨ya, yc, rfl, hlc_ya, hcm_ya⟩ := HX.out.form
      unfold maxLen at hcm_ya
      rw [hk2]
      go_wp2
      go_ret
      exact ⟨rfl, hw_w10⟩
    · go_wp2_with fail
      refine (specFV_b HS.out hv).mono ?_
      rintro e w11 ⟨rfl, hb_w11⟩
      have hw_w11 := hw_w4.trans (hb_w11.mono hw_w4.size)
      clear hw_w4
      replace HS := Lib.hid (HS.out.below hb_w11)
      replace HT := Lib.hid (HT.out.below hb_w11)
      clear hb_w11 
      go_wp2_with fail
      refine (alive_any _).mono ?_
      rintro e w12 ⟨rfl, hb_w12⟩
      have hw_w12 := hw_w11.trans (hb_w12.mono hw_w11.size)
      clear hw_w11
      replace HS := Lib.hid (HS.out.below hb_w12)
      replace HT := Lib.hid (HT.out.below hb_w12)
      clear hb_w12 
      go_wp2
      go_ret
      exact ⟨rfl, hw_w12⟩
end Go.Proofs.YtibanpeiigbofaaDoor
