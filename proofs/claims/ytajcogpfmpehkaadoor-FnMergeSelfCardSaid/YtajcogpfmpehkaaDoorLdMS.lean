/- The law FnMergeSelf: the walk. -/
import Derived.Test.YtajcogpfmpehkaaDoorTwD
import Derived.Test.YtajcogpfmpehkaaDoorBmX
import Derived.Test.YtajcogpfmpehkaaDoorMbMf
import Derived.Test.YtajcogpfmpehkaaDoorMbW
import Derived.Test.YtajcogpfmpehkaaDoorDxAJ
namespace Go.Proofs.YtajcogpfmpehkaaDoor
open Go.RowKit
/-- A cell of a block of before. -/
structure Cl (w : World) (p : Nat) (v : Value) : Prop where
  lt : p < w.heap.size
  c : w.cell? ⟨p, 0, none⟩ = some v
theorem Cl.bel {w w' : World} {p : Nat} {v : Value} (h : Cl w p v) (hb : Below w.heap.size w w') : Cl w' p v := ⟨Nat.lt_of_lt_of_le h.lt hb.size, (hb.cell (p := ⟨p, 0, none⟩) h.lt).trans h.c⟩
theorem Cl.new (w : World) (v : Value) (ty : TypeId) : Cl (w.alloc (.cells #[v] ty)) w.heap.size v := ⟨by simp, by simp⟩
theorem implMB_s {lo lo' : Nat} {a b M : Bx} {R : Option Bx} {q : Bool} {u v : Value} {w : World} (hs : Rws lo w u a) (hu : Rws lo' w v b) (ht : Tab w) (h : mergeV a b = R) (hq : R.isSome = q) (hm : R.getD [] = M) :
    Calls Tryd.prog 23 #[.agg #[u], .agg #[v]] w fun e w' => ∃ z, e = .returned (.tuple #[.agg #[z], .bool q]) ∧ Rws 0 w' z M ∧ Below w.heap.size w w' := by
  subst hq
  subst hm
  refine (implMB_e hs hu ht h).mono ?_
  rintro e w' ⟨z, rfl, h1, h2⟩
  exact ⟨z, rfl, (GRw.rws h1).mono (Nat.zero_le _), h2⟩
theorem specMB_s {lo lo' : Nat} {a b M : Bx} {R : Option Bx} {q : Bool} {u v : Value} {w : World} (hs : Rws lo w u a) (hu : Rws lo' w v b) (h : mergeV a b = R) (hq : R.isSome = q) (hm : R.getD [] = M) :
    Calls Tryd.prog 24 #[.agg #[u], .agg #[v]] w fun e w' => ∃ z, e = .returned (.tuple #[.agg #[z], .bool q]) ∧ Rws 0 w' z M ∧ Below w.heap.size w w' := by
  subst hq
  subst hm
  exact specMB_e hs hu h
theorem implBMt_s {lo lo' : Nat} {a b M : Bx} {R : Option Bx} {u v : Value} {w : World} (hs : Rws lo w u a) (hu : Rws lo' w v b) (ht : Tab w) (h : meetV a b = R) (hm : R.getD [] = M) :
    Calls Tryd.prog 30 #[.agg #[u], .agg #[v]] w fun e w' => ∃ z, e = .returned (.agg #[z]) ∧ Rws 0 w' z M ∧ Below w.heap.size w w' := by
  subst hm
  refine (implBMt_e hs hu ht h).mono ?_
  rintro e w' ⟨z, rfl, h1, h2⟩
  exact ⟨z, rfl, (GRw.rws h1).mono (Nat.zero_le _), h2⟩
set_option maxHeartbeats 4000000 in
set_option maxRecDepth 100000 in
theorem law_FnMergeSelf (bs : List Int) (v : Value) (w : World) (h : CodeAt w v bs) (ht : Tab w) :
    Calls Tryd.prog 6 #[v] w fun e w' => e = .returned (.bool true) ∧ Below w.heap.size w w' := by
  obtain ⟨a, cap, rfl, l1, l2, -⟩ := code_cells h
  unfold maxLen at l2
  by_cases hl : 1048576 < bs.length
  · go_enter Tryd.func6, Tryd.ntmps6
    go_wp2
    go_ret
    exact ⟨rfl, by (repeat' (first | with_reducible exact Below.refl _ _ | with_reducible assumption | with_reducible refine Below.setCell ?_ ?_ _ | with_reducible refine Below.alloc ?_ ?_ _ | with_reducible refine Below.drew ?_ | with_reducible refine belDrewN ?_ _ | with_reducible refine Below.trans ?_ (Below.mono (by assumption) ?_) | omega | (simp; omega) | (simp; done)))⟩
  go_enter Tryd.func6, Tryd.ntmps6
  go_wp2_with fail
  refine (drawMB_any _ _ _ h).mono ?_
  rintro e w1 ⟨v0, u0, a, b, rfl, ha0, hb0, hsa, hsb, hb_w1⟩
  have hw_w1 := hb_w1
  have HA := Lib.hid (ha0)
  have HB := Lib.hid (hb0)
  have HT := Lib.hid (ht.below hb_w1)
  have HSA := Lib.hid hsa
  have HSB := Lib.hid hsb
  clear hb_w1 ha0 hb0 hsa hsb h
  obtain ⟨aa, ac, rfl, hlc_aa, hcm_aa⟩ := HA.out.form
  unfold maxLen at hcm_aa
  obtain ⟨ba, bc, rfl, hlc_ba, hcm_ba⟩ := HB.out.form
  unfold maxLen at hcm_ba
  obtain ⟨V1, hV1⟩ : ∃ W, (w1.alloc (.cells #[.slice aa a.length ac] 32)).alloc (.cells #[.slice ba b.length bc] 32) = W := ⟨_, rfl⟩
  have hal1 : Below w1.heap.size w1 V1 := by rw [← hV1]; (repeat' (first | with_reducible exact Below.refl _ _ | with_reducible assumption | with_reducible refine Below.setCell ?_ ?_ _ | with_reducible refine Below.alloc ?_ ?_ _ | with_reducible refine Below.drew ?_ | with_reducible refine belDrewN ?_ _ | with_reducible refine Below.trans ?_ (Below.mono (by assumption) ?_) | omega | (simp; omega) | (simp; done)))
  have hc3 : Cl V1 w1.heap.size (.slice aa a.length ac) := by rw [← hV1]; exact (Cl.new w1 _ _).bel ((Below.refl _ _).alloc (Nat.le_refl _) _)
  have hc4 : Cl V1 (w1.heap.size + 1) (.slice ba b.length bc) := by rw [← hV1]; have h9 := Cl.new (w1.alloc (.cells #[.slice aa a.length ac] 32)) (.slice ba b.length bc) 32; rwa [show (w1.alloc (.cells #[.slice aa a.length ac] 32)).heap.size = w1.heap.size + 1 from by simp] at h9
  have hw_V1 := hw_w1.trans (hal1.mono hw_w1.size)
  clear hw_w1
  replace HA := Lib.hid (HA.out.below hal1)
  replace HB := Lib.hid (HB.out.below hal1)
  replace HT := Lib.hid (HT.out.below hal1)
  have HC3 := Lib.hid (hc3)
  have HC4 := Lib.hid (hc4)
  clear hal1 hc3 hc4
  obtain ⟨O, hO⟩ : ∃ O, mergeV a b = O := ⟨_, rfl⟩
  have HO := Lib.hid hO
  obtain ⟨q, hq⟩ : ∃ q, O.isSome = q := ⟨_, rfl⟩
  have HQ := Lib.hid hq
  obtain ⟨M, hM⟩ : ∃ M, O.getD [] = M := ⟨_, rfl⟩
  have HM := Lib.hid hM
  clear hO hq hM
  have hqq : (q != q) = false := by cases q <;> rfl
  have c3 := HC3.out.c
  have l3 := HC3.out.lt
  have c4 := HC4.out.c
  have l4 := HC4.out.lt
  go_wp2_with fail
  refine (implMB_s HA.out HB.out HT.out HO.out HQ.out HM.out).mono ?_
  rintro e w2 ⟨z1, rfl, ho, hb_w2⟩
  have hw_w2 := hw_V1.trans (hb_w2.mono hw_V1.size)
  clear hw_V1
  replace HA := Lib.hid (HA.out.below hb_w2)
  replace HB := Lib.hid (HB.out.below hb_w2)
  replace HT := Lib.hid (HT.out.below hb_w2)
  replace HC3 := Lib.hid (Cl.bel HC3.out hb_w2)
  replace HC4 := Lib.hid (Cl.bel HC4.out hb_w2)
  have HX := Lib.hid (ho)
  clear hb_w2 ho
  clear c3 l3 c4 l4
  obtain ⟨xa, xc, rfl, hlc_xa, hcm_xa⟩ := HX.out.form
  unfold maxLen at hcm_xa
  obtain ⟨V5, hV5⟩ : ∃ W, w2.alloc (.cells #[.slice xa M.length xc] 32) = W := ⟨_, rfl⟩
  have hal5 : Below w2.heap.size w2 V5 := by rw [← hV5]; exact (Below.refl _ _).alloc (Nat.le_refl _) _
  have hc5 : Cl V5 w2.heap.size (.slice xa M.length xc) := by rw [← hV5]; exact Cl.new _ _ _
  have hw_V5 := hw_w2.trans (hal5.mono hw_w2.size)
  clear hw_w2
  replace HA := Lib.hid (HA.out.below hal5)
  replace HB := Lib.hid (HB.out.below hal5)
  replace HT := Lib.hid (HT.out.below hal5)
  replace HC3 := Lib.hid (Cl.bel HC3.out hal5)
  replace HC4 := Lib.hid (Cl.bel HC4.out hal5)
  replace HX := Lib.hid (HX.out.below hal5)
  have HC5 := Lib.hid (hc5)
  clear hal5 hc5
  have c3 := HC3.out.c
  have l3 := HC3.out.lt
  have c4 := HC4.out.c
  have l4 := HC4.out.lt
  go_wp2_with fail
  refine (specMB_s HA.out HB.out HO.out HQ.out HM.out).mono ?_
  rintro e w3 ⟨z2, rfl, ho, hb_w3⟩
  have hw_w3 := hw_V5.trans (hb_w3.mono hw_V5.size)
  clear hw_V5
  replace HA := Lib.hid (HA.out.below hb_w3)
  replace HB := Lib.hid (HB.out.below hb_w3)
  replace HT := Lib.hid (HT.out.below hb_w3)
  replace HC3 := Lib.hid (Cl.bel HC3.out hb_w3)
  replace HC4 := Lib.hid (Cl.bel HC4.out hb_w3)
  replace HX := Lib.hid (HX.out.below hb_w3)
  replace HC5 := Lib.hid (Cl.bel HC5.out hb_w3)
  have HY := Lib.hid (ho)
  clear hb_w3 ho
  clear c3 l3 c4 l4
  obtain ⟨ya, yc, rfl, hlc_ya, hcm_ya⟩ := HY.out.form
  unfold maxLen at hcm_ya
  obtain ⟨V7, hV7⟩ : ∃ W, w3.alloc (.cells #[.slice ya M.length yc] 32) = W := ⟨_, rfl⟩
  have hal7 : Below w3.heap.size w3 V7 := by rw [← hV7]; exact (Below.refl _ _).alloc (Nat.le_refl _) _
  have hc7 : Cl V7 w3.heap.size (.slice ya M.length yc) := by rw [← hV7]; exact Cl.new _ _ _
  have hw_V7 := hw_w3.trans (hal7.mono hw_w3.size)
  clear hw_w3
  replace HA := Lib.hid (HA.out.below hal7)
  replace HB := Lib.hid (HB.out.below hal7)
  replace HT := Lib.hid (HT.out.below hal7)
  replace HC3 := Lib.hid (Cl.bel HC3.out hal7)
  replace HC4 := Lib.hid (Cl.bel HC4.out hal7)
  replace HX := Lib.hid (HX.out.below hal7)
  replace HC5 := Lib.hid (Cl.bel HC5.out hal7)
  replace HY := Lib.hid (HY.out.below hal7)
  have HC7 := Lib.hid (hc7)
  clear hal7 hc7
  have c5 := HC5.out.c
  have l5 := HC5.out.lt
  have c7 := HC7.out.c
  have l7 := HC7.out.lt
  go_wp2_with fail
  refine (sameBox_e HX.out HY.out).mono ?_
  rintro e w4 ⟨rfl, hb_w4⟩
  have hw_w4 := hw_V7.trans (hb_w4.mono hw_V7.size)
  clear hw_V7
  replace HA := Lib.hid (HA.out.below hb_w4)
  replace HB := Lib.hid (HB.out.below hb_w4)
  replace HT := Lib.hid (HT.out.below hb_w4)
  replace HC3 := Lib.hid (Cl.bel HC3.out hb_w4)
  replace HC4 := Lib.hid (Cl.bel HC4.out hb_w4)
  replace HX := Lib.hid (HX.out.below hb_w4)
  replace HC5 := Lib.hid (Cl.bel HC5.out hb_w4)
  replace HY := Lib.hid (HY.out.below hb_w4)
  replace HC7 := Lib.hid (Cl.bel HC7.out hb_w4)
  clear hb_w4 
  clear c5 l5 c7 l7
  clear HY
  clear HC7
  obtain ⟨va, hva⟩ : ∃ r, bvalid a = r := ⟨_, rfl⟩
  obtain ⟨vb, hvb⟩ : ∃ r, bvalid b = r := ⟨_, rfl⟩
  have HVA := Lib.hid hva
  have HVB := Lib.hid hvb
  clear hva hvb
  have c3 := HC3.out.c
  have l3 := HC3.out.lt
  go_wp2_with fail
  refine (specBV_b HA.out HVA.out).mono ?_
  rintro e w5 ⟨rfl, hb_w5⟩
  have hw_w5 := hw_w4.trans (hb_w5.mono hw_w4.size)
  clear hw_w4
  replace HA := Lib.hid (HA.out.below hb_w5)
  replace HB := Lib.hid (HB.out.below hb_w5)
  replace HT := Lib.hid (HT.out.below hb_w5)
  replace HC3 := Lib.hid (Cl.bel HC3.out hb_w5)
  replace HC4 := Lib.hid (Cl.bel HC4.out hb_w5)
  replace HX := Lib.hid (HX.out.below hb_w5)
  replace HC5 := Lib.hid (Cl.bel HC5.out hb_w5)
  clear hb_w5 
  clear c3 l3
  cases va
  · obtain rfl : q = false := by rw [← HQ.out, ← HO.out, mergeV_no (.inl HVA.out)]; rfl
    go_wp2_with fail
    refine (alive_any _).mono ?_
    rintro e w6 ⟨rfl, hb_w6⟩
    have hw_w6 := hw_w5.trans (hb_w6.mono hw_w5.size)
    clear hw_w5
    replace HA := Lib.hid (HA.out.below hb_w6)
    replace HB := Lib.hid (HB.out.below hb_w6)
    replace HT := Lib.hid (HT.out.below hb_w6)
    replace HC3 := Lib.hid (Cl.bel HC3.out hb_w6)
    replace HC4 := Lib.hid (Cl.bel HC4.out hb_w6)
    replace HX := Lib.hid (HX.out.below hb_w6)
    replace HC5 := Lib.hid (Cl.bel HC5.out hb_w6)
    clear hb_w6 
    go_wp2
    go_ret
    exact ⟨rfl, hw_w6⟩
  · have c4 := HC4.out.c
    have l4 := HC4.out.lt
    go_wp2_with fail
    refine (specBV_b HB.out HVB.out).mono ?_
    rintro e w7 ⟨rfl, hb_w7⟩
    have hw_w7 := hw_w5.trans (hb_w7.mono hw_w5.size)
    clear hw_w5
    replace HA := Lib.hid (HA.out.below hb_w7)
    replace HB := Lib.hid (HB.out.below hb_w7)
    replace HT := Lib.hid (HT.out.below hb_w7)
    replace HC3 := Lib.hid (Cl.bel HC3.out hb_w7)
    replace HC4 := Lib.hid (Cl.bel HC4.out hb_w7)
    replace HX := Lib.hid (HX.out.below hb_w7)
    replace HC5 := Lib.hid (Cl.bel HC5.out hb_w7)
    clear hb_w7 
    clear c4 l4
    cases vb
    · obtain rfl : q = false := by rw [← HQ.out, ← HO.out, mergeV_no (.inr HVB.out)]; rfl
      go_wp2_with fail
      refine (alive_any _).mono ?_
      rintro e w8 ⟨rfl, hb_w8⟩
      have hw_w8 := hw_w7.trans (hb_w8.mono hw_w7.size)
      clear hw_w7
      replace HA := Lib.hid (HA.out.below hb_w8)
      replace HB := Lib.hid (HB.out.below hb_w8)
      replace HT := Lib.hid (HT.out.below hb_w8)
      replace HC3 := Lib.hid (Cl.bel HC3.out hb_w8)
      replace HC4 := Lib.hid (Cl.bel HC4.out hb_w8)
      replace HX := Lib.hid (HX.out.below hb_w8)
      replace HC5 := Lib.hid (Cl.bel HC5.out hb_w8)
      clear hb_w8 
      go_wp2
      go_ret
      exact ⟨rfl, hw_w8⟩
    · have HSE := Lib.hid (show mergeV a a = some a by rw [mergeV_yes HVA.out HVA.out]; exact mergeB_self HVA.out)
      obtain ⟨R2, hR2⟩ : ∃ R, meetV a b = R := ⟨_, rfl⟩
      have HR2 := Lib.hid hR2
      obtain ⟨m, hm⟩ : ∃ m, R2.getD [] = m := ⟨_, rfl⟩
      have HMM := Lib.hid hm
      clear hR2 hm
      obtain ⟨O3, hO3⟩ : ∃ O, mergeV a m = O := ⟨_, rfl⟩
      have HO3 := Lib.hid hO3
      obtain ⟨q3, hq3⟩ : ∃ q, O3.isSome = q := ⟨_, rfl⟩
      have HQ3 := Lib.hid hq3
      obtain ⟨M3, hM3⟩ : ∃ M, O3.getD [] = M := ⟨_, rfl⟩
      have HM3 := Lib.hid hM3
      clear hO3 hq3 hM3
      have HFIN := Lib.hid (show m.length = 0 ∨ (m.length = 4 ∧ q3 = true ∧ (bvalid M3 && bvalid a && bsame M3 a) = true) from by
        cases hr : R2 with
        | none => exact .inl (by rw [← HMM.out, hr]; rfl)
        | some c =>
          obtain ⟨e1, e2⟩ := meetV_some (HR2.out.trans hr)
          obtain rfl : m = c := by rw [← HMM.out, hr]; rfl
          obtain ⟨p, p1, p2, p3⟩ := mergeB_part HVA.out HVB.out (e1 ▸ e2)
          have hp : O3 = some p := by rw [← HO3.out, mergeV_yes HVA.out e2, e1]; exact p1
          refine .inr ⟨(bvalid_four e2).1, by rw [← HQ3.out, hp]; rfl, ?_⟩
          rw [← HM3.out, hp, Option.getD_some, p2, HVA.out, p3]; rfl)
      clear HX
      clear HC5
      have c3 := HC3.out.c
      have l3 := HC3.out.lt
      go_wp2_with fail
      refine (implMB_s HA.out HA.out HT.out HSE.out rfl rfl).mono ?_
      rintro e w9 ⟨z3, rfl, ho, hb_w9⟩
      have hw_w9 := hw_w7.trans (hb_w9.mono hw_w7.size)
      clear hw_w7
      replace HA := Lib.hid (HA.out.below hb_w9)
      replace HB := Lib.hid (HB.out.below hb_w9)
      replace HT := Lib.hid (HT.out.below hb_w9)
      replace HC3 := Lib.hid (Cl.bel HC3.out hb_w9)
      replace HC4 := Lib.hid (Cl.bel HC4.out hb_w9)
      have HX := Lib.hid (ho)
      clear hb_w9 ho
      clear c3 l3
      obtain ⟨sa, sc, rfl, hlc_sa, hcm_sa⟩ := HX.out.form
      unfold maxLen at hcm_sa
      obtain ⟨V9, hV9⟩ : ∃ W, w9.alloc (.cells #[.slice sa a.length sc] 32) = W := ⟨_, rfl⟩
      have hal9 : Below w9.heap.size w9 V9 := by rw [← hV9]; exact (Below.refl _ _).alloc (Nat.le_refl _) _
      have hc9 : Cl V9 w9.heap.size (.slice sa a.length sc) := by rw [← hV9]; exact Cl.new _ _ _
      have hw_V9 := hw_w9.trans (hal9.mono hw_w9.size)
      clear hw_w9
      replace HA := Lib.hid (HA.out.below hal9)
      replace HB := Lib.hid (HB.out.below hal9)
      replace HT := Lib.hid (HT.out.below hal9)
      replace HC3 := Lib.hid (Cl.bel HC3.out hal9)
      replace HC4 := Lib.hid (Cl.bel HC4.out hal9)
      replace HX := Lib.hid (HX.out.below hal9)
      have HC9 := Lib.hid (hc9)
      clear hal9 hc9
      have c3 := HC3.out.c
      have l3 := HC3.out.lt
      have c4 := HC4.out.c
      have l4 := HC4.out.lt
      go_wp2_with fail
      refine (implBMt_s HA.out HB.out HT.out HR2.out HMM.out).mono ?_
      rintro e w10 ⟨z4, rfl, ho, hb_w10⟩
      have hw_w10 := hw_V9.trans (hb_w10.mono hw_V9.size)
      clear hw_V9
      replace HA := Lib.hid (HA.out.below hb_w10)
      replace HB := Lib.hid (HB.out.below hb_w10)
      replace HT := Lib.hid (HT.out.below hb_w10)
      replace HC3 := Lib.hid (Cl.bel HC3.out hb_w10)
      replace HC4 := Lib.hid (Cl.bel HC4.out hb_w10)
      replace HX := Lib.hid (HX.out.below hb_w10)
      replace HC9 := Lib.hid (Cl.bel HC9.out hb_w10)
      have HY := Lib.hid (ho)
      clear hb_w10 ho
      clear c3 l3 c4 l4
      obtain ⟨ma, mc, rfl, hlc_ma, hcm_ma⟩ := HY.out.form
      unfold maxLen at hcm_ma
      obtain ⟨V11, hV11⟩ : ∃ W, w10.alloc (.cells #[.slice ma m.length mc] 32) = W := ⟨_, rfl⟩
      have hal11 : Below w10.heap.size w10 V11 := by rw [← hV11]; exact (Below.refl _ _).alloc (Nat.le_refl _) _
      have hc11 : Cl V11 w10.heap.size (.slice ma m.length mc) := by rw [← hV11]; exact Cl.new _ _ _
      have hw_V11 := hw_w10.trans (hal11.mono hw_w10.size)
      clear hw_w10
      replace HA := Lib.hid (HA.out.below hal11)
      replace HB := Lib.hid (HB.out.below hal11)
      replace HT := Lib.hid (HT.out.below hal11)
      replace HC3 := Lib.hid (Cl.bel HC3.out hal11)
      replace HC4 := Lib.hid (Cl.bel HC4.out hal11)
      replace HX := Lib.hid (HX.out.below hal11)
      replace HC9 := Lib.hid (Cl.bel HC9.out hal11)
      replace HY := Lib.hid (HY.out.below hal11)
      have HC11 := Lib.hid (hc11)
      clear hal11 hc11
      have c3 := HC3.out.c
      have l3 := HC3.out.lt
      have c11 := HC11.out.c
      have l11 := HC11.out.lt
      go_wp2_with fail
      refine (implMB_s HA.out HY.out HT.out HO3.out HQ3.out HM3.out).mono ?_
      rintro e w11 ⟨z5, rfl, ho, hb_w11⟩
      have hw_w11 := hw_V11.trans (hb_w11.mono hw_V11.size)
      clear hw_V11
      replace HA := Lib.hid (HA.out.below hb_w11)
      replace HB := Lib.hid (HB.out.below hb_w11)
      replace HT := Lib.hid (HT.out.below hb_w11)
      replace HC3 := Lib.hid (Cl.bel HC3.out hb_w11)
      replace HC4 := Lib.hid (Cl.bel HC4.out hb_w11)
      replace HX := Lib.hid (HX.out.below hb_w11)
      replace HC9 := Lib.hid (Cl.bel HC9.out hb_w11)
      replace HY := Lib.hid (HY.out.below hb_w11)
      replace HC11 := Lib.hid (Cl.bel HC11.out hb_w11)
      have HZ := Lib.hid (ho)
      clear hb_w11 ho
      clear c3 l3 c11 l11
      obtain ⟨pa, pc, rfl, hlc_pa, hcm_pa⟩ := HZ.out.form
      unfold maxLen at hcm_pa
      obtain ⟨V12, hV12⟩ : ∃ W, w11.alloc (.cells #[.slice pa M3.length pc] 32) = W := ⟨_, rfl⟩
      have hal12 : Below w11.heap.size w11 V12 := by rw [← hV12]; exact (Below.refl _ _).alloc (Nat.le_refl _) _
      have hc12 : Cl V12 w11.heap.size (.slice pa M3.length pc) := by rw [← hV12]; exact Cl.new _ _ _
      have hw_V12 := hw_w11.trans (hal12.mono hw_w11.size)
      clear hw_w11
      replace HA := Lib.hid (HA.out.below hal12)
      replace HB := Lib.hid (HB.out.below hal12)
      replace HT := Lib.hid (HT.out.below hal12)
      replace HC3 := Lib.hid (Cl.bel HC3.out hal12)
      replace HC4 := Lib.hid (Cl.bel HC4.out hal12)
      replace HX := Lib.hid (HX.out.below hal12)
      replace HC9 := Lib.hid (Cl.bel HC9.out hal12)
      replace HY := Lib.hid (HY.out.below hal12)
      replace HC11 := Lib.hid (Cl.bel HC11.out hal12)
      replace HZ := Lib.hid (HZ.out.below hal12)
      have HC12 := Lib.hid (hc12)
      clear hal12 hc12
      have c3 := HC3.out.c
      have l3 := HC3.out.lt
      have c9 := HC9.out.c
      have l9 := HC9.out.lt
      go_wp2_with fail
      refine (sameBox_e HX.out HA.out).mono ?_
      rintro e w12 ⟨rfl, hb_w12⟩
      have hw_w12 := hw_V12.trans (hb_w12.mono hw_V12.size)
      clear hw_V12
      replace HA := Lib.hid (HA.out.below hb_w12)
      replace HB := Lib.hid (HB.out.below hb_w12)
      replace HT := Lib.hid (HT.out.below hb_w12)
      replace HC3 := Lib.hid (Cl.bel HC3.out hb_w12)
      replace HC4 := Lib.hid (Cl.bel HC4.out hb_w12)
      replace HX := Lib.hid (HX.out.below hb_w12)
      replace HC9 := Lib.hid (Cl.bel HC9.out hb_w12)
      replace HY := Lib.hid (HY.out.below hb_w12)
      replace HC11 := Lib.hid (Cl.bel HC11.out hb_w12)
      replace HZ := Lib.hid (HZ.out.below hb_w12)
      replace HC12 := Lib.hid (Cl.bel HC12.out hb_w12)
      clear hb_w12 
      clear c3 l3 c9 l9
      have c3 := HC3.out.c
      have l3 := HC3.out.lt
      have c11 := HC11.out.c
      have l11 := HC11.out.lt
      have c12 := HC12.out.c
      have l12 := HC12.out.lt
      rcases HFIN.out with h0 | ⟨h4, rfl, hs9⟩
      · rw [h0] at c11
        go_wp2
        go_ret
        exact ⟨rfl, hw_w12⟩
      · have HS9 := Lib.hid hs9
        rw [h4] at c11
        clear hs9 h4
        go_wp2_with fail
        refine (implBSm_b HZ.out HA.out HT.out HS9.out).mono ?_
        rintro e w13 ⟨rfl, hb_w13⟩
        have hw_w13 := hw_w12.trans (hb_w13.mono hw_w12.size)
        clear hw_w12
        replace HA := Lib.hid (HA.out.below hb_w13)
        replace HB := Lib.hid (HB.out.below hb_w13)
        replace HT := Lib.hid (HT.out.below hb_w13)
        replace HC3 := Lib.hid (Cl.bel HC3.out hb_w13)
        replace HC4 := Lib.hid (Cl.bel HC4.out hb_w13)
        replace HX := Lib.hid (HX.out.below hb_w13)
        replace HC9 := Lib.hid (Cl.bel HC9.out hb_w13)
        replace HY := Lib.hid (HY.out.below hb_w13)
        replace HC11 := Lib.hid (Cl.bel HC11.out hb_w13)
        replace HZ := Lib.hid (HZ.out.below hb_w13)
        replace HC12 := Lib.hid (Cl.bel HC12.out hb_w13)
        clear hb_w13 
        go_wp2
        go_ret
        exact ⟨rfl, hw_w13⟩
end Go.Proofs.YtajcogpfmpehkaaDoor
