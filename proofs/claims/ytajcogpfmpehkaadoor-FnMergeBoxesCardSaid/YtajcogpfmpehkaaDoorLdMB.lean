/- The law FnMergeBoxes: the walk. -/
import Derived.Test.YtajcogpfmpehkaaDoorTwD
import Derived.Test.YtajcogpfmpehkaaDoorBmX
import Derived.Test.YtajcogpfmpehkaaDoorMbMf
import Derived.Test.YtajcogpfmpehkaaDoorMbW
import Derived.Test.YtajcogpfmpehkaaDoorDxAJ
import Derived.Test.YtajcogpfmpehkaaDoorRgH
import Derived.Test.YtajcogpfmpehkaaDoorLdMS
namespace Go.Proofs.YtajcogpfmpehkaaDoor
open Go.RowKit
theorem merge_hits {a b c : Bx} {p : Pk} {r1 r2 : Bool} (ha : bvalid a = true) (hb : bvalid b = true) (h : mergeB a b = some c) (h1 : (bvalid a && p.ok && bhas a p) = r1) (h2 : (bvalid b && p.ok && bhas b p) = r2) : (bvalid c && p.ok && bhas c p) = (r1 || r2) := by
  rw [← h1, ← h2, mergeB_has ha hb h, mergeB_valid ha hb h, ha, hb]
  cases p.ok <;> simp
theorem bsz2 {a b : Bx} (ha : BSz a) (hb : BSz b) : ∀ (k : Nat) z, [a, b][k]? = some z → z.length ≤ 100 ∧ ∀ (j : Nat) xs, z[j]? = some xs → xs.length ≤ 1000 := by
  intro k z hz
  have key : ∀ {z : Bx}, BSz z → z.length ≤ 100 ∧ ∀ (j : Nat) xs, z[j]? = some xs → xs.length ≤ 1000 := fun {z} h => ⟨by have := h.1; omega, fun j xs hx => by have := h.2 j xs hx; omega⟩
  match k, hz with
  | 0, hz => cases hz; exact key ha
  | 1, hz => cases hz; exact key hb
  | k + 2, hz => simp at hz
theorem rl_nil {a b c : Bx} {R : Option (List Bx)} (ha : bvalid a = true) (hb : bvalid b = true) (h : mergeB a b = some c) (hR : regless c [a, b] = R) : (R.getD []).length = 0 := by
  cases R with
  | none => rfl
  | some ys =>
    unfold regless at hR
    split at hR
    · rw [merge_rest ha hb h hR]; rfl
    · cases hR
set_option maxHeartbeats 4000000 in
set_option maxRecDepth 100000 in
theorem law_FnMergeBoxes (bs bs2 : List Int) (v v2 : Value) (w : World) (h : CodeAt w v bs) (h2 : CodeAt w v2 bs2) (ht : Tab w) :
    Calls Tryd.prog 5 #[v, v2] w fun e w' => e = .returned (.bool true) ∧ Below w.heap.size w w' := by
  obtain ⟨a, cap, rfl, l1, l2, -⟩ := code_cells h
  obtain ⟨a2, cap2, rfl, m1, m2, -⟩ := code_cells h2
  unfold maxLen at l2 m2
  by_cases hl : 1048576 < bs.length
  · go_enter Tryd.func5, Tryd.ntmps5
    go_wp2
    go_ret
    exact ⟨rfl, by (repeat' (first | with_reducible exact Below.refl _ _ | with_reducible assumption | with_reducible refine Below.setCell ?_ ?_ _ | with_reducible refine Below.alloc ?_ ?_ _ | with_reducible refine Below.drew ?_ | with_reducible refine belDrewN ?_ _ | with_reducible refine Below.trans ?_ (Below.mono (by assumption) ?_) | omega | (simp; omega) | (simp; done)))⟩
  by_cases hl2 : 1048576 < bs2.length
  · go_enter Tryd.func5, Tryd.ntmps5
    go_wp2
    go_ret
    exact ⟨rfl, by (repeat' (first | with_reducible exact Below.refl _ _ | with_reducible assumption | with_reducible refine Below.setCell ?_ ?_ _ | with_reducible refine Below.alloc ?_ ?_ _ | with_reducible refine Below.drew ?_ | with_reducible refine belDrewN ?_ _ | with_reducible refine Below.trans ?_ (Below.mono (by assumption) ?_) | omega | (simp; omega) | (simp; done)))⟩
  have hsd : bs2.length ≤ 1048576 := by omega
  generalize bs2.length = sd at *
  go_enter Tryd.func5, Tryd.ntmps5
  go_wp2_with fail
  refine (drawMB_any _ _ _ h).mono ?_
  rintro e w1 ⟨v0, u0, a, b, rfl, ha0, hb0, hsa, hsb, hb_w1⟩
  have hw_w1 := hb_w1
  have HA := Lib.hid (ha0)
  have HB := Lib.hid (hb0)
  have HT := Lib.hid (ht.below hb_w1)
  have HSA := Lib.hid hsa
  have HSB := Lib.hid hsb
  clear hb_w1 ha0 hb0 hsa hsb h
  obtain ⟨aa, ac, rfl, hlc_aa, hcm_aa⟩ := HA.out.form
  unfold maxLen at hcm_aa
  obtain ⟨ba, bc, rfl, hlc_ba, hcm_ba⟩ := HB.out.form
  unfold maxLen at hcm_ba
  obtain ⟨V1, hV1⟩ : ∃ W, (w1.alloc (.cells #[.slice aa a.length ac] 32)).alloc (.cells #[.slice ba b.length bc] 32) = W := ⟨_, rfl⟩
  have hal1 : Below w1.heap.size w1 V1 := by rw [← hV1]; (repeat' (first | with_reducible exact Below.refl _ _ | with_reducible assumption | with_reducible refine Below.setCell ?_ ?_ _ | with_reducible refine Below.alloc ?_ ?_ _ | with_reducible refine Below.drew ?_ | with_reducible refine belDrewN ?_ _ | with_reducible refine Below.trans ?_ (Below.mono (by assumption) ?_) | omega | (simp; omega) | (simp; done)))
  have hc3 : Cl V1 w1.heap.size (.slice aa a.length ac) := by rw [← hV1]; exact (Cl.new w1 _ _).bel ((Below.refl _ _).alloc (Nat.le_refl _) _)
  have hc4 : Cl V1 (w1.heap.size + 1) (.slice ba b.length bc) := by rw [← hV1]; have h9 := Cl.new (w1.alloc (.cells #[.slice aa a.length ac] 32)) (.slice ba b.length bc) 32; rwa [show (w1.alloc (.cells #[.slice aa a.length ac] 32)).heap.size = w1.heap.size + 1 from by simp] at h9
  have hw_V1 := hw_w1.trans (hal1.mono hw_w1.size)
  clear hw_w1
  replace HA := Lib.hid (HA.out.below hal1)
  replace HB := Lib.hid (HB.out.below hal1)
  replace HT := Lib.hid (HT.out.below hal1)
  have HC3 := Lib.hid (hc3)
  have HC4 := Lib.hid (hc4)
  clear hal1 hc3 hc4
  obtain ⟨O, hO⟩ : ∃ O, mergeV a b = O := ⟨_, rfl⟩
  have HO := Lib.hid hO
  obtain ⟨q, hq⟩ : ∃ q, O.isSome = q := ⟨_, rfl⟩
  have HQ := Lib.hid hq
  obtain ⟨M, hM⟩ : ∃ M, O.getD [] = M := ⟨_, rfl⟩
  have HM := Lib.hid hM
  clear hO hq hM
  have hqq : (q != q) = false := by cases q <;> rfl
  have c3 := HC3.out.c
  have l3 := HC3.out.lt
  have c4 := HC4.out.c
  have l4 := HC4.out.lt
  go_wp2_with fail
  refine (implMB_s HA.out HB.out HT.out HO.out HQ.out HM.out).mono ?_
  rintro e w2 ⟨z1, rfl, ho, hb_w2⟩
  have hw_w2 := hw_V1.trans (hb_w2.mono hw_V1.size)
  clear hw_V1
  replace HA := Lib.hid (HA.out.below hb_w2)
  replace HB := Lib.hid (HB.out.below hb_w2)
  replace HT := Lib.hid (HT.out.below hb_w2)
  replace HC3 := Lib.hid (Cl.bel HC3.out hb_w2)
  replace HC4 := Lib.hid (Cl.bel HC4.out hb_w2)
  have HX := Lib.hid (ho)
  clear hb_w2 ho
  clear c3 l3 c4 l4
  obtain ⟨xa, xc, rfl, hlc_xa, hcm_xa⟩ := HX.out.form
  unfold maxLen at hcm_xa
  obtain ⟨V5, hV5⟩ : ∃ W, w2.alloc (.cells #[.slice xa M.length xc] 32) = W := ⟨_, rfl⟩
  have hal5 : Below w2.heap.size w2 V5 := by rw [← hV5]; exact (Below.refl _ _).alloc (Nat.le_refl _) _
  have hc5 : Cl V5 w2.heap.size (.slice xa M.length xc) := by rw [← hV5]; exact Cl.new _ _ _
  have hw_V5 := hw_w2.trans (hal5.mono hw_w2.size)
  clear hw_w2
  replace HA := Lib.hid (HA.out.below hal5)
  replace HB := Lib.hid (HB.out.below hal5)
  replace HT := Lib.hid (HT.out.below hal5)
  replace HC3 := Lib.hid (Cl.bel HC3.out hal5)
  replace HC4 := Lib.hid (Cl.bel HC4.out hal5)
  replace HX := Lib.hid (HX.out.below hal5)
  have HC5 := Lib.hid (hc5)
  clear hal5 hc5
  have c3 := HC3.out.c
  have l3 := HC3.out.lt
  have c4 := HC4.out.c
  have l4 := HC4.out.lt
  go_wp2_with fail
  refine (specMB_s HA.out HB.out HO.out HQ.out HM.out).mono ?_
  rintro e w3 ⟨z2, rfl, ho, hb_w3⟩
  have hw_w3 := hw_V5.trans (hb_w3.mono hw_V5.size)
  clear hw_V5
  replace HA := Lib.hid (HA.out.below hb_w3)
  replace HB := Lib.hid (HB.out.below hb_w3)
  replace HT := Lib.hid (HT.out.below hb_w3)
  replace HC3 := Lib.hid (Cl.bel HC3.out hb_w3)
  replace HC4 := Lib.hid (Cl.bel HC4.out hb_w3)
  replace HX := Lib.hid (HX.out.below hb_w3)
  replace HC5 := Lib.hid (Cl.bel HC5.out hb_w3)
  have HY := Lib.hid (ho)
  clear hb_w3 ho
  clear c3 l3 c4 l4
  obtain ⟨ya, yc, rfl, hlc_ya, hcm_ya⟩ := HY.out.form
  unfold maxLen at hcm_ya
  obtain ⟨V7, hV7⟩ : ∃ W, w3.alloc (.cells #[.slice ya M.length yc] 32) = W := ⟨_, rfl⟩
  have hal7 : Below w3.heap.size w3 V7 := by rw [← hV7]; exact (Below.refl _ _).alloc (Nat.le_refl _) _
  have hc7 : Cl V7 w3.heap.size (.slice ya M.length yc) := by rw [← hV7]; exact Cl.new _ _ _
  have hw_V7 := hw_w3.trans (hal7.mono hw_w3.size)
  clear hw_w3
  replace HA := Lib.hid (HA.out.below hal7)
  replace HB := Lib.hid (HB.out.below hal7)
  replace HT := Lib.hid (HT.out.below hal7)
  replace HC3 := Lib.hid (Cl.bel HC3.out hal7)
  replace HC4 := Lib.hid (Cl.bel HC4.out hal7)
  replace HX := Lib.hid (HX.out.below hal7)
  replace HC5 := Lib.hid (Cl.bel HC5.out hal7)
  replace HY := Lib.hid (HY.out.below hal7)
  have HC7 := Lib.hid (hc7)
  clear hal7 hc7
  have c5 := HC5.out.c
  have l5 := HC5.out.lt
  have c7 := HC7.out.c
  have l7 := HC7.out.lt
  go_wp2_with fail
  refine (sameBox_e HX.out HY.out).mono ?_
  rintro e w4 ⟨rfl, hb_w4⟩
  have hw_w4 := hw_V7.trans (hb_w4.mono hw_V7.size)
  clear hw_V7
  replace HA := Lib.hid (HA.out.below hb_w4)
  replace HB := Lib.hid (HB.out.below hb_w4)
  replace HT := Lib.hid (HT.out.below hb_w4)
  replace HC3 := Lib.hid (Cl.bel HC3.out hb_w4)
  replace HC4 := Lib.hid (Cl.bel HC4.out hb_w4)
  replace HX := Lib.hid (HX.out.below hb_w4)
  replace HC5 := Lib.hid (Cl.bel HC5.out hb_w4)
  replace HY := Lib.hid (HY.out.below hb_w4)
  replace HC7 := Lib.hid (Cl.bel HC7.out hb_w4)
  clear hb_w4 
  clear c5 l5 c7 l7
  clear HY
  clear HC7
  cases O with
  | none =>
    obtain rfl : q = false := by rw [← HQ.out]; rfl
    have hM0 : M.length = 0 := by rw [← HM.out]; rfl
    have c5 := HC5.out.c
    have l5 := HC5.out.lt
    rw [hM0] at c5
    go_wp2_with fail
    refine (alive_any _).mono ?_
    rintro e w5 ⟨rfl, hb_w5⟩
    have hw_w5 := hw_w4.trans (hb_w5.mono hw_w4.size)
    clear hw_w4
    replace HA := Lib.hid (HA.out.below hb_w5)
    replace HB := Lib.hid (HB.out.below hb_w5)
    replace HT := Lib.hid (HT.out.below hb_w5)
    replace HC3 := Lib.hid (Cl.bel HC3.out hb_w5)
    replace HC4 := Lib.hid (Cl.bel HC4.out hb_w5)
    replace HX := Lib.hid (HX.out.below hb_w5)
    replace HC5 := Lib.hid (Cl.bel HC5.out hb_w5)
    clear hb_w5 
    go_wp2
    go_ret
    exact ⟨rfl, hw_w5⟩
  | some c =>
    obtain rfl : q = true := by rw [← HQ.out]; rfl
    obtain rfl : c = M := by rw [← HM.out]; rfl
    obtain ⟨hva, hvb, hmb⟩ := mergeV_some HO.out
    have HV := Lib.hid (And.intro hva (And.intro hvb hmb))
    have HBS := Lib.hid (bsz2 HSA.out HSB.out)
    clear hva hvb hmb
    have c3 := HC3.out.c
    have l3 := HC3.out.lt
    have c4 := HC4.out.c
    have l4 := HC4.out.lt
    obtain ⟨Va, hVa⟩ : ∃ W, w4.alloc (.cells #[.slice aa a.length ac, .slice ba b.length bc] 32) = W := ⟨_, rfl⟩
    have hala : Below w4.heap.size w4 Va := by rw [← hVa]; exact (Below.refl _ _).alloc (Nat.le_refl _) _
    have hla : Bxs 0 Va (.slice (some ⟨w4.heap.size, 0, none⟩) 2 2) [a, b] := by rw [← hVa]; exact bxs2 HA.out HB.out _
    go_wp2_with fail
    refine (probe_any [a, b] _ sd _ hla hsd (by simp) HBS.out).mono ?_
    rintro e w8 ⟨⟨pa, pb, pc, pd⟩, rfl, hb8⟩
    have hb_w8 := hala.trans (hb8.mono hala.size)
    have hw_w8 := hw_w4.trans (hb_w8.mono hw_w4.size)
    clear hw_w4
    replace HA := Lib.hid (HA.out.below hb_w8)
    replace HB := Lib.hid (HB.out.below hb_w8)
    replace HT := Lib.hid (HT.out.below hb_w8)
    replace HC3 := Lib.hid (Cl.bel HC3.out hb_w8)
    replace HC4 := Lib.hid (Cl.bel HC4.out hb_w8)
    replace HX := Lib.hid (HX.out.below hb_w8)
    replace HC5 := Lib.hid (Cl.bel HC5.out hb_w8)
    clear hb_w8 hala hla hb8
    clear c3 l3 c4 l4
    obtain ⟨W, hW⟩ : ∃ W, w8.alloc (.cells #[.int .i64 pa, .int .i64 pb, .int .i64 pc, .int .i64 pd] 39) = W := ⟨_, rfl⟩
    have hal : Below w8.heap.size w8 W := by rw [← hW]; exact (Below.refl _ _).alloc (Nat.le_refl _) _
    have hbx : Box4 W w8.heap.size pa pb pc pd := by rw [← hW]; exact Box4.new w8 pa pb pc pd _
    have hw_W := hw_w8.trans (hal.mono hw_w8.size)
    clear hw_w8
    replace HA := Lib.hid (HA.out.below hal)
    replace HB := Lib.hid (HB.out.below hal)
    replace HT := Lib.hid (HT.out.below hal)
    replace HC3 := Lib.hid (Cl.bel HC3.out hal)
    replace HC4 := Lib.hid (Cl.bel HC4.out hal)
    replace HX := Lib.hid (HX.out.below hal)
    replace HC5 := Lib.hid (Cl.bel HC5.out hal)
    have HP := Lib.hid (hbx)
    clear hal hbx
    have c3 := HC3.out.c
    have l3 := HC3.out.lt
    have c4 := HC4.out.c
    have l4 := HC4.out.lt
    have c5 := HC5.out.c
    have l5 := HC5.out.lt
    obtain ⟨Vb, hVb⟩ : ∃ V, W.alloc (.cells #[.slice aa a.length ac, .slice ba b.length bc] 32) = V := ⟨_, rfl⟩
    have halb : Below W.heap.size W Vb := by rw [← hVb]; exact (Below.refl _ _).alloc (Nat.le_refl _) _
    have hlb : Bxs 0 Vb (.slice (some ⟨W.heap.size, 0, none⟩) 2 2) [a, b] := by rw [← hVb]; exact bxs2 HA.out HB.out _
    obtain ⟨R3, hR3⟩ : ∃ R, regless c [a, b] = R := ⟨_, rfl⟩
    have hrl := rl_nil HV.out.1 HV.out.2.1 HV.out.2.2 hR3
    go_wp2_with fail
    refine (implRL_e (HX.out.below halb) hlb (HT.out.below halb) hR3).mono ?_
    rintro e w9 ⟨ra, rc, rfl, hb9⟩
    rw [hrl]
    have hb_w9 := halb.trans (hb9.mono halb.size)
    have hw_w9 := hw_W.trans (hb_w9.mono hw_W.size)
    clear hw_W
    replace HA := Lib.hid (HA.out.below hb_w9)
    replace HB := Lib.hid (HB.out.below hb_w9)
    replace HT := Lib.hid (HT.out.below hb_w9)
    replace HC3 := Lib.hid (Cl.bel HC3.out hb_w9)
    replace HC4 := Lib.hid (Cl.bel HC4.out hb_w9)
    replace HX := Lib.hid (HX.out.below hb_w9)
    replace HC5 := Lib.hid (Cl.bel HC5.out hb_w9)
    replace HP := Lib.hid (Box4.bel HP.out hb_w9)
    clear hb_w9 halb hlb hb9 hrl hR3
    clear c3 l3 c4 l4 c5 l5
    have c3 := HC3.out.c
    have l3 := HC3.out.lt
    have c4 := HC4.out.c
    have l4 := HC4.out.lt
    have c5 := HC5.out.c
    have l5 := HC5.out.lt
    obtain ⟨zl, z0, z1, z2, z3, zf⟩ := HP.out
    obtain ⟨r1, hr1⟩ : ∃ r, (bvalid a && Pk.ok ⟨pa, pb, pc, pd⟩ && bhas a ⟨pa, pb, pc, pd⟩) = r := ⟨_, rfl⟩
    obtain ⟨r2, hr2⟩ : ∃ r, (bvalid b && Pk.ok ⟨pa, pb, pc, pd⟩ && bhas b ⟨pa, pb, pc, pd⟩) = r := ⟨_, rfl⟩
    have HR0 := Lib.hid (merge_hits HV.out.1 HV.out.2.1 HV.out.2.2 hr1 hr2)
    have HR1 := Lib.hid hr1
    have HR2 := Lib.hid hr2
    have HWA := Lib.hid (show (bvalid a && bvalid c && bwithin a c) = true by rw [HV.out.1, mergeB_valid HV.out.1 HV.out.2.1 HV.out.2.2, (mergeB_within HV.out.1 HV.out.2.1 HV.out.2.2).1]; rfl)
    have HWB := Lib.hid (show (bvalid b && bvalid c && bwithin b c) = true by rw [HV.out.2.1, mergeB_valid HV.out.1 HV.out.2.1 HV.out.2.2, (mergeB_within HV.out.1 HV.out.2.1 HV.out.2.2).2]; rfl)
    clear hr1 hr2
    generalize a.length = la at *
    generalize b.length = lb at *
    generalize c.length = lc at *
    have hsp := hV1
    clear hV1 hV5 hVa hW hVb hsp
    cases r1
    · cases r2
      · go_wp2_with fail
        (refine wp_region_belG (W := w9) [BIs (.agg #[.slice xa lc xc]), BIs (.agg #[.int .i64 pa, .int .i64 pb, .int .i64 pc, .int .i64 pd]), (BIs (.bool false)), BIs (.agg #[.slice aa la ac]), BIs (.agg #[.int .i64 pa, .int .i64 pb, .int .i64 pc, .int .i64 pd]), (BIs (.bool false)), BIs (.bool false), BIs (.agg #[.slice ba lb bc]), BIs (.agg #[.int .i64 pa, .int .i64 pb, .int .i64 pc, .int .i64 pd]), (BIs (.bool false)), BIs (.bool false), BIs (.bool true), BIs (.bool true), BIs (.agg #[.slice aa la ac]), BIs (.agg #[.slice xa lc xc]), (BIs (.bool true)), BIs (.bool true), BIs (.bool true), BIs (.agg #[.slice ba lb bc]), BIs (.agg #[.slice xa lc xc]), (BIs (.bool true)), BIs (.bool true), BIs (.bool true), BIs (.slice ra 0 rc), BIs (.int .i64 0), BIs (.bool true), BIs (.bool true), BIs (.bool true)] (by kernel_rfl) (fun u => by simp only [frU, Act.put, List.setIfInBounds_toArray, List.set_cons_succ, List.set_cons_zero, Nat.zero_add, Nat.reduceAdd]; exact rfl) (by kernel_rfl) ⟨bst_is _, bst_is _, (bst_is _), bst_is _, bst_is _, (bst_is _), bst_is _, bst_is _, bst_is _, (bst_is _), bst_is _, bst_is _, bst_is _, bst_is _, bst_is _, (bst_is _), bst_is _, bst_is _, bst_is _, bst_is _, (bst_is _), bst_is _, bst_is _, bst_is _, bst_is _, bst_is _, bst_is _, bst_is _, trivial⟩ ?_ ?_; exact ⟨stG (fun u w3 hC hd => ⟨rfl, fun Q K hK => by (have e0 := (hC.cell (p := ⟨w2.heap.size, 0, none⟩) l5).trans c5; go_step; exact hK _ _ rfl (Below.refl _ _) rfl)⟩), stG (fun u w3 hC hd => ⟨rfl, fun Q K hK => by (have e0 := (hC.cell (p := ⟨w8.heap.size, 0, none⟩) zl).trans z0; have e1 := (hC.cell (p := ⟨w8.heap.size, 1, none⟩) zl).trans z1; have e2 := (hC.cell (p := ⟨w8.heap.size, 2, none⟩) zl).trans z2; have e3 := (hC.cell (p := ⟨w8.heap.size, 3, none⟩) zl).trans z3; go_step; exact hK _ _ rfl (Below.refl _ _) rfl)⟩), stG (fun u w3 hC hd => ⟨rfl, fun Q K hK => by (have hu := bis (w := w3) (hd 0 rfl); rw [hu] at hK ⊢; clear hu; have hu := bis (w := w3) (hd 1 rfl); rw [hu] at hK ⊢; clear hu; go_step; refine (implBH_b (HX.out.below hC) (HT.out.below hC) HR0.out).mono ?_; rintro e w4 ⟨rfl, hb4⟩; exact hK _ _ rfl hb4 rfl)⟩), stG (fun u w3 hC hd => ⟨rfl, fun Q K hK => by (have e0 := (hC.cell (p := ⟨w1.heap.size, 0, none⟩) l3).trans c3; go_step; exact hK _ _ rfl (Below.refl _ _) rfl)⟩), stG (fun u w3 hC hd => ⟨rfl, fun Q K hK => by (have e0 := (hC.cell (p := ⟨w8.heap.size, 0, none⟩) zl).trans z0; have e1 := (hC.cell (p := ⟨w8.heap.size, 1, none⟩) zl).trans z1; have e2 := (hC.cell (p := ⟨w8.heap.size, 2, none⟩) zl).trans z2; have e3 := (hC.cell (p := ⟨w8.heap.size, 3, none⟩) zl).trans z3; go_step; exact hK _ _ rfl (Below.refl _ _) rfl)⟩), stG (fun u w3 hC hd => ⟨rfl, fun Q K hK => by (have hu := bis (w := w3) (hd 3 rfl); rw [hu] at hK ⊢; clear hu; have hu := bis (w := w3) (hd 4 rfl); rw [hu] at hK ⊢; clear hu; go_step; refine (implBH_b (HA.out.below hC) (HT.out.below hC) HR1.out).mono ?_; rintro e w4 ⟨rfl, hb4⟩; exact hK _ _ rfl hb4 rfl)⟩), stG (fun u w3 hC hd => ⟨rfl, fun Q K hK => by (have hu := bis (w := w3) (hd 5 rfl); rw [hu] at hK ⊢; clear hu; go_step; exact hK _ _ rfl (Below.refl _ _) rfl)⟩), stG (fun u w3 hC hd => ⟨by (have hu := bis (w := w3) (hd 6 rfl); rw [hu]; rfl), fun Q K hK => by (have e0 := (hC.cell (p := ⟨w1.heap.size + 1, 0, none⟩) l4).trans c4; go_step; exact hK _ _ rfl (Below.refl _ _) rfl)⟩), stG (fun u w3 hC hd => ⟨by (have hu := bis (w := w3) (hd 6 rfl); rw [hu]; rfl), fun Q K hK => by (have e0 := (hC.cell (p := ⟨w8.heap.size, 0, none⟩) zl).trans z0; have e1 := (hC.cell (p := ⟨w8.heap.size, 1, none⟩) zl).trans z1; have e2 := (hC.cell (p := ⟨w8.heap.size, 2, none⟩) zl).trans z2; have e3 := (hC.cell (p := ⟨w8.heap.size, 3, none⟩) zl).trans z3; go_step; exact hK _ _ rfl (Below.refl _ _) rfl)⟩), stG (fun u w3 hC hd => ⟨by (have hu := bis (w := w3) (hd 6 rfl); rw [hu]; rfl), fun Q K hK => by (have hu := bis (w := w3) (hd 7 rfl); rw [hu] at hK ⊢; clear hu; have hu := bis (w := w3) (hd 8 rfl); rw [hu] at hK ⊢; clear hu; go_step; refine (implBH_b (HB.out.below hC) (HT.out.below hC) HR2.out).mono ?_; rintro e w4 ⟨rfl, hb4⟩; exact hK _ _ rfl hb4 rfl)⟩), stG (fun u w3 hC hd => ⟨rfl, fun Q K hK => by (have hu := bis (w := w3) (hd 6 rfl); rw [hu] at hK ⊢; clear hu; have hu := bis (w := w3) (hd 9 rfl); rw [hu] at hK ⊢; clear hu; go_step; exact hK _ _ rfl (Below.refl _ _) rfl)⟩), stG (fun u w3 hC hd => ⟨rfl, fun Q K hK => by (have hu := bis (w := w3) (hd 2 rfl); rw [hu] at hK ⊢; clear hu; have hu := bis (w := w3) (hd 10 rfl); rw [hu] at hK ⊢; clear hu; go_step; exact hK _ _ rfl (Below.refl _ _) rfl)⟩), stG (fun u w3 hC hd => ⟨rfl, fun Q K hK => by (have hu := bis (w := w3) (hd 9 rfl); rw [hu] at hK ⊢; clear hu; have hu := bis (w := w3) (hd 11 rfl); rw [hu] at hK ⊢; clear hu; go_step; exact hK _ _ rfl (Below.refl _ _) rfl)⟩), stG (fun u w3 hC hd => ⟨by (have hu := bis (w := w3) (hd 12 rfl); rw [hu]; rfl), fun Q K hK => by (have e0 := (hC.cell (p := ⟨w1.heap.size, 0, none⟩) l3).trans c3; go_step; exact hK _ _ rfl (Below.refl _ _) rfl)⟩), stG (fun u w3 hC hd => ⟨by (have hu := bis (w := w3) (hd 12 rfl); rw [hu]; rfl), fun Q K hK => by (have e0 := (hC.cell (p := ⟨w2.heap.size, 0, none⟩) l5).trans c5; go_step; exact hK _ _ rfl (Below.refl _ _) rfl)⟩), stG (fun u w3 hC hd => ⟨by (have hu := bis (w := w3) (hd 12 rfl); rw [hu]; rfl), fun Q K hK => by (have hu := bis (w := w3) (hd 13 rfl); rw [hu] at hK ⊢; clear hu; have hu := bis (w := w3) (hd 14 rfl); rw [hu] at hK ⊢; clear hu; go_step; refine (implBW_b (HA.out.below hC) (HX.out.below hC) (HT.out.below hC) HWA.out).mono ?_; rintro e w4 ⟨rfl, hb4⟩; exact hK _ _ rfl hb4 rfl)⟩), stG (fun u w3 hC hd => ⟨rfl, fun Q K hK => by (have hu := bis (w := w3) (hd 12 rfl); rw [hu] at hK ⊢; clear hu; have hu := bis (w := w3) (hd 15 rfl); rw [hu] at hK ⊢; clear hu; go_step; exact hK _ _ rfl (Below.refl _ _) rfl)⟩), stG (fun u w3 hC hd => ⟨rfl, fun Q K hK => by (have hu := bis (w := w3) (hd 16 rfl); rw [hu] at hK ⊢; clear hu; go_step; exact hK _ _ rfl (Below.refl _ _) rfl)⟩), stG (fun u w3 hC hd => ⟨by (have hu := bis (w := w3) (hd 17 rfl); rw [hu]; rfl), fun Q K hK => by (have e0 := (hC.cell (p := ⟨w1.heap.size + 1, 0, none⟩) l4).trans c4; go_step; exact hK _ _ rfl (Below.refl _ _) rfl)⟩), stG (fun u w3 hC hd => ⟨by (have hu := bis (w := w3) (hd 17 rfl); rw [hu]; rfl), fun Q K hK => by (have e0 := (hC.cell (p := ⟨w2.heap.size, 0, none⟩) l5).trans c5; go_step; exact hK _ _ rfl (Below.refl _ _) rfl)⟩), stG (fun u w3 hC hd => ⟨by (have hu := bis (w := w3) (hd 17 rfl); rw [hu]; rfl), fun Q K hK => by (have hu := bis (w := w3) (hd 18 rfl); rw [hu] at hK ⊢; clear hu; have hu := bis (w := w3) (hd 19 rfl); rw [hu] at hK ⊢; clear hu; go_step; refine (implBW_b (HB.out.below hC) (HX.out.below hC) (HT.out.below hC) HWB.out).mono ?_; rintro e w4 ⟨rfl, hb4⟩; exact hK _ _ rfl hb4 rfl)⟩), stG (fun u w3 hC hd => ⟨rfl, fun Q K hK => by (have hu := bis (w := w3) (hd 17 rfl); rw [hu] at hK ⊢; clear hu; have hu := bis (w := w3) (hd 20 rfl); rw [hu] at hK ⊢; clear hu; go_step; exact hK _ _ rfl (Below.refl _ _) rfl)⟩), stG (fun u w3 hC hd => ⟨rfl, fun Q K hK => by (have hu := bis (w := w3) (hd 21 rfl); rw [hu] at hK ⊢; clear hu; go_step; exact hK _ _ rfl (Below.refl _ _) rfl)⟩), stG (fun u w3 hC hd => ⟨by (have hu := bis (w := w3) (hd 22 rfl); rw [hu]; rfl), fun Q K hK => by (go_step; exact hK _ _ rfl (Below.refl _ _) rfl)⟩), stG (fun u w3 hC hd => ⟨by (have hu := bis (w := w3) (hd 22 rfl); rw [hu]; rfl), fun Q K hK => by (have hu := bis (w := w3) (hd 23 rfl); rw [hu] at hK ⊢; clear hu; go_step; exact hK _ _ rfl (Below.refl _ _) rfl)⟩), stG (fun u w3 hC hd => ⟨by (have hu := bis (w := w3) (hd 22 rfl); rw [hu]; rfl), fun Q K hK => by (have hu := bis (w := w3) (hd 24 rfl); rw [hu] at hK ⊢; clear hu; go_step; exact hK _ _ rfl (Below.refl _ _) rfl)⟩), stG (fun u w3 hC hd => ⟨rfl, fun Q K hK => by (have hu := bis (w := w3) (hd 22 rfl); rw [hu] at hK ⊢; clear hu; have hu := bis (w := w3) (hd 25 rfl); rw [hu] at hK ⊢; clear hu; go_step; exact hK _ _ rfl (Below.refl _ _) rfl)⟩), stG (fun u w3 hC hd => ⟨rfl, fun Q K hK => by (have hu := bis (w := w3) (hd 26 rfl); rw [hu] at hK ⊢; clear hu; go_step; exact hK _ _ rfl (Below.refl _ _) rfl)⟩), trivial⟩); intro u wz hb_wz hF; rw [bis (w := wz) (hF 0 (by decide))]; rw [bis (w := wz) (hF 1 (by decide))]; generalize u 2 = vx2 at *; rw [bis (w := wz) (hF 3 (by decide))]; rw [bis (w := wz) (hF 4 (by decide))]; generalize u 5 = vx5 at *; rw [bis (w := wz) (hF 6 (by decide))]; rw [bis (w := wz) (hF 7 (by decide))]; rw [bis (w := wz) (hF 8 (by decide))]; generalize u 9 = vx9 at *; rw [bis (w := wz) (hF 10 (by decide))]; rw [bis (w := wz) (hF 11 (by decide))]; rw [bis (w := wz) (hF 12 (by decide))]; rw [bis (w := wz) (hF 13 (by decide))]; rw [bis (w := wz) (hF 14 (by decide))]; generalize u 15 = vx15 at *; rw [bis (w := wz) (hF 16 (by decide))]; rw [bis (w := wz) (hF 17 (by decide))]; rw [bis (w := wz) (hF 18 (by decide))]; rw [bis (w := wz) (hF 19 (by decide))]; generalize u 20 = vx20 at *; rw [bis (w := wz) (hF 21 (by decide))]; rw [bis (w := wz) (hF 22 (by decide))]; rw [bis (w := wz) (hF 23 (by decide))]; rw [bis (w := wz) (hF 24 (by decide))]; rw [bis (w := wz) (hF 25 (by decide))]; rw [bis (w := wz) (hF 26 (by decide))]; rw [bis (w := wz) (hF 27 (by decide))]; clear hF
        have hw_wz := hw_w9.trans (hb_wz.mono hw_w9.size)
        clear hw_w9
        replace HA := Lib.hid (HA.out.below hb_wz)
        replace HB := Lib.hid (HB.out.below hb_wz)
        replace HT := Lib.hid (HT.out.below hb_wz)
        replace HC3 := Lib.hid (Cl.bel HC3.out hb_wz)
        replace HC4 := Lib.hid (Cl.bel HC4.out hb_wz)
        replace HX := Lib.hid (HX.out.below hb_wz)
        replace HC5 := Lib.hid (Cl.bel HC5.out hb_wz)
        replace HP := Lib.hid (Box4.bel HP.out hb_wz)
        go_wp2
        go_ret
        exact ⟨rfl, hw_wz⟩
      · go_wp2_with fail
        (refine wp_region_belG (W := w9) [BIs (.agg #[.slice xa lc xc]), BIs (.agg #[.int .i64 pa, .int .i64 pb, .int .i64 pc, .int .i64 pd]), (BIs (.bool true)), BIs (.agg #[.slice aa la ac]), BIs (.agg #[.int .i64 pa, .int .i64 pb, .int .i64 pc, .int .i64 pd]), (BIs (.bool false)), BIs (.bool false), BIs (.agg #[.slice ba lb bc]), BIs (.agg #[.int .i64 pa, .int .i64 pb, .int .i64 pc, .int .i64 pd]), (BIs (.bool true)), BIs (.bool true), BIs (.bool true), BIs (.bool true), BIs (.agg #[.slice aa la ac]), BIs (.agg #[.slice xa lc xc]), (BIs (.bool true)), BIs (.bool true), BIs (.bool true), BIs (.agg #[.slice ba lb bc]), BIs (.agg #[.slice xa lc xc]), (BIs (.bool true)), BIs (.bool true), BIs (.bool true), BIs (.slice ra 0 rc), BIs (.int .i64 0), BIs (.bool true), BIs (.bool true), BIs (.bool true)] (by kernel_rfl) (fun u => by simp only [frU, Act.put, List.setIfInBounds_toArray, List.set_cons_succ, List.set_cons_zero, Nat.zero_add, Nat.reduceAdd]; exact rfl) (by kernel_rfl) ⟨bst_is _, bst_is _, (bst_is _), bst_is _, bst_is _, (bst_is _), bst_is _, bst_is _, bst_is _, (bst_is _), bst_is _, bst_is _, bst_is _, bst_is _, bst_is _, (bst_is _), bst_is _, bst_is _, bst_is _, bst_is _, (bst_is _), bst_is _, bst_is _, bst_is _, bst_is _, bst_is _, bst_is _, bst_is _, trivial⟩ ?_ ?_; exact ⟨stG (fun u w3 hC hd => ⟨rfl, fun Q K hK => by (have e0 := (hC.cell (p := ⟨w2.heap.size, 0, none⟩) l5).trans c5; go_step; exact hK _ _ rfl (Below.refl _ _) rfl)⟩), stG (fun u w3 hC hd => ⟨rfl, fun Q K hK => by (have e0 := (hC.cell (p := ⟨w8.heap.size, 0, none⟩) zl).trans z0; have e1 := (hC.cell (p := ⟨w8.heap.size, 1, none⟩) zl).trans z1; have e2 := (hC.cell (p := ⟨w8.heap.size, 2, none⟩) zl).trans z2; have e3 := (hC.cell (p := ⟨w8.heap.size, 3, none⟩) zl).trans z3; go_step; exact hK _ _ rfl (Below.refl _ _) rfl)⟩), stG (fun u w3 hC hd => ⟨rfl, fun Q K hK => by (have hu := bis (w := w3) (hd 0 rfl); rw [hu] at hK ⊢; clear hu; have hu := bis (w := w3) (hd 1 rfl); rw [hu] at hK ⊢; clear hu; go_step; refine (implBH_b (HX.out.below hC) (HT.out.below hC) HR0.out).mono ?_; rintro e w4 ⟨rfl, hb4⟩; exact hK _ _ rfl hb4 rfl)⟩), stG (fun u w3 hC hd => ⟨rfl, fun Q K hK => by (have e0 := (hC.cell (p := ⟨w1.heap.size, 0, none⟩) l3).trans c3; go_step; exact hK _ _ rfl (Below.refl _ _) rfl)⟩), stG (fun u w3 hC hd => ⟨rfl, fun Q K hK => by (have e0 := (hC.cell (p := ⟨w8.heap.size, 0, none⟩) zl).trans z0; have e1 := (hC.cell (p := ⟨w8.heap.size, 1, none⟩) zl).trans z1; have e2 := (hC.cell (p := ⟨w8.heap.size, 2, none⟩) zl).trans z2; have e3 := (hC.cell (p := ⟨w8.heap.size, 3, none⟩) zl).trans z3; go_step; exact hK _ _ rfl (Below.refl _ _) rfl)⟩), stG (fun u w3 hC hd => ⟨rfl, fun Q K hK => by (have hu := bis (w := w3) (hd 3 rfl); rw [hu] at hK ⊢; clear hu; have hu := bis (w := w3) (hd 4 rfl); rw [hu] at hK ⊢; clear hu; go_step; refine (implBH_b (HA.out.below hC) (HT.out.below hC) HR1.out).mono ?_; rintro e w4 ⟨rfl, hb4⟩; exact hK _ _ rfl hb4 rfl)⟩), stG (fun u w3 hC hd => ⟨rfl, fun Q K hK => by (have hu := bis (w := w3) (hd 5 rfl); rw [hu] at hK ⊢; clear hu; go_step; exact hK _ _ rfl (Below.refl _ _) rfl)⟩), stG (fun u w3 hC hd => ⟨by (have hu := bis (w := w3) (hd 6 rfl); rw [hu]; rfl), fun Q K hK => by (have e0 := (hC.cell (p := ⟨w1.heap.size + 1, 0, none⟩) l4).trans c4; go_step; exact hK _ _ rfl (Below.refl _ _) rfl)⟩), stG (fun u w3 hC hd => ⟨by (have hu := bis (w := w3) (hd 6 rfl); rw [hu]; rfl), fun Q K hK => by (have e0 := (hC.cell (p := ⟨w8.heap.size, 0, none⟩) zl).trans z0; have e1 := (hC.cell (p := ⟨w8.heap.size, 1, none⟩) zl).trans z1; have e2 := (hC.cell (p := ⟨w8.heap.size, 2, none⟩) zl).trans z2; have e3 := (hC.cell (p := ⟨w8.heap.size, 3, none⟩) zl).trans z3; go_step; exact hK _ _ rfl (Below.refl _ _) rfl)⟩), stG (fun u w3 hC hd => ⟨by (have hu := bis (w := w3) (hd 6 rfl); rw [hu]; rfl), fun Q K hK => by (have hu := bis (w := w3) (hd 7 rfl); rw [hu] at hK ⊢; clear hu; have hu := bis (w := w3) (hd 8 rfl); rw [hu] at hK ⊢; clear hu; go_step; refine (implBH_b (HB.out.below hC) (HT.out.below hC) HR2.out).mono ?_; rintro e w4 ⟨rfl, hb4⟩; exact hK _ _ rfl hb4 rfl)⟩), stG (fun u w3 hC hd => ⟨rfl, fun Q K hK => by (have hu := bis (w := w3) (hd 6 rfl); rw [hu] at hK ⊢; clear hu; have hu := bis (w := w3) (hd 9 rfl); rw [hu] at hK ⊢; clear hu; go_step; exact hK _ _ rfl (Below.refl _ _) rfl)⟩), stG (fun u w3 hC hd => ⟨rfl, fun Q K hK => by (have hu := bis (w := w3) (hd 2 rfl); rw [hu] at hK ⊢; clear hu; have hu := bis (w := w3) (hd 10 rfl); rw [hu] at hK ⊢; clear hu; go_step; exact hK _ _ rfl (Below.refl _ _) rfl)⟩), stG (fun u w3 hC hd => ⟨rfl, fun Q K hK => by (have hu := bis (w := w3) (hd 9 rfl); rw [hu] at hK ⊢; clear hu; have hu := bis (w := w3) (hd 11 rfl); rw [hu] at hK ⊢; clear hu; go_step; exact hK _ _ rfl (Below.refl _ _) rfl)⟩), stG (fun u w3 hC hd => ⟨by (have hu := bis (w := w3) (hd 12 rfl); rw [hu]; rfl), fun Q K hK => by (have e0 := (hC.cell (p := ⟨w1.heap.size, 0, none⟩) l3).trans c3; go_step; exact hK _ _ rfl (Below.refl _ _) rfl)⟩), stG (fun u w3 hC hd => ⟨by (have hu := bis (w := w3) (hd 12 rfl); rw [hu]; rfl), fun Q K hK => by (have e0 := (hC.cell (p := ⟨w2.heap.size, 0, none⟩) l5).trans c5; go_step; exact hK _ _ rfl (Below.refl _ _) rfl)⟩), stG (fun u w3 hC hd => ⟨by (have hu := bis (w := w3) (hd 12 rfl); rw [hu]; rfl), fun Q K hK => by (have hu := bis (w := w3) (hd 13 rfl); rw [hu] at hK ⊢; clear hu; have hu := bis (w := w3) (hd 14 rfl); rw [hu] at hK ⊢; clear hu; go_step; refine (implBW_b (HA.out.below hC) (HX.out.below hC) (HT.out.below hC) HWA.out).mono ?_; rintro e w4 ⟨rfl, hb4⟩; exact hK _ _ rfl hb4 rfl)⟩), stG (fun u w3 hC hd => ⟨rfl, fun Q K hK => by (have hu := bis (w := w3) (hd 12 rfl); rw [hu] at hK ⊢; clear hu; have hu := bis (w := w3) (hd 15 rfl); rw [hu] at hK ⊢; clear hu; go_step; exact hK _ _ rfl (Below.refl _ _) rfl)⟩), stG (fun u w3 hC hd => ⟨rfl, fun Q K hK => by (have hu := bis (w := w3) (hd 16 rfl); rw [hu] at hK ⊢; clear hu; go_step; exact hK _ _ rfl (Below.refl _ _) rfl)⟩), stG (fun u w3 hC hd => ⟨by (have hu := bis (w := w3) (hd 17 rfl); rw [hu]; rfl), fun Q K hK => by (have e0 := (hC.cell (p := ⟨w1.heap.size + 1, 0, none⟩) l4).trans c4; go_step; exact hK _ _ rfl (Below.refl _ _) rfl)⟩), stG (fun u w3 hC hd => ⟨by (have hu := bis (w := w3) (hd 17 rfl); rw [hu]; rfl), fun Q K hK => by (have e0 := (hC.cell (p := ⟨w2.heap.size, 0, none⟩) l5).trans c5; go_step; exact hK _ _ rfl (Below.refl _ _) rfl)⟩), stG (fun u w3 hC hd => ⟨by (have hu := bis (w := w3) (hd 17 rfl); rw [hu]; rfl), fun Q K hK => by (have hu := bis (w := w3) (hd 18 rfl); rw [hu] at hK ⊢; clear hu; have hu := bis (w := w3) (hd 19 rfl); rw [hu] at hK ⊢; clear hu; go_step; refine (implBW_b (HB.out.below hC) (HX.out.below hC) (HT.out.below hC) HWB.out).mono ?_; rintro e w4 ⟨rfl, hb4⟩; exact hK _ _ rfl hb4 rfl)⟩), stG (fun u w3 hC hd => ⟨rfl, fun Q K hK => by (have hu := bis (w := w3) (hd 17 rfl); rw [hu] at hK ⊢; clear hu; have hu := bis (w := w3) (hd 20 rfl); rw [hu] at hK ⊢; clear hu; go_step; exact hK _ _ rfl (Below.refl _ _) rfl)⟩), stG (fun u w3 hC hd => ⟨rfl, fun Q K hK => by (have hu := bis (w := w3) (hd 21 rfl); rw [hu] at hK ⊢; clear hu; go_step; exact hK _ _ rfl (Below.refl _ _) rfl)⟩), stG (fun u w3 hC hd => ⟨by (have hu := bis (w := w3) (hd 22 rfl); rw [hu]; rfl), fun Q K hK => by (go_step; exact hK _ _ rfl (Below.refl _ _) rfl)⟩), stG (fun u w3 hC hd => ⟨by (have hu := bis (w := w3) (hd 22 rfl); rw [hu]; rfl), fun Q K hK => by (have hu := bis (w := w3) (hd 23 rfl); rw [hu] at hK ⊢; clear hu; go_step; exact hK _ _ rfl (Below.refl _ _) rfl)⟩), stG (fun u w3 hC hd => ⟨by (have hu := bis (w := w3) (hd 22 rfl); rw [hu]; rfl), fun Q K hK => by (have hu := bis (w := w3) (hd 24 rfl); rw [hu] at hK ⊢; clear hu; go_step; exact hK _ _ rfl (Below.refl _ _) rfl)⟩), stG (fun u w3 hC hd => ⟨rfl, fun Q K hK => by (have hu := bis (w := w3) (hd 22 rfl); rw [hu] at hK ⊢; clear hu; have hu := bis (w := w3) (hd 25 rfl); rw [hu] at hK ⊢; clear hu; go_step; exact hK _ _ rfl (Below.refl _ _) rfl)⟩), stG (fun u w3 hC hd => ⟨rfl, fun Q K hK => by (have hu := bis (w := w3) (hd 26 rfl); rw [hu] at hK ⊢; clear hu; go_step; exact hK _ _ rfl (Below.refl _ _) rfl)⟩), trivial⟩); intro u wz hb_wz hF; rw [bis (w := wz) (hF 0 (by decide))]; rw [bis (w := wz) (hF 1 (by decide))]; generalize u 2 = vx2 at *; rw [bis (w := wz) (hF 3 (by decide))]; rw [bis (w := wz) (hF 4 (by decide))]; generalize u 5 = vx5 at *; rw [bis (w := wz) (hF 6 (by decide))]; rw [bis (w := wz) (hF 7 (by decide))]; rw [bis (w := wz) (hF 8 (by decide))]; generalize u 9 = vx9 at *; rw [bis (w := wz) (hF 10 (by decide))]; rw [bis (w := wz) (hF 11 (by decide))]; rw [bis (w := wz) (hF 12 (by decide))]; rw [bis (w := wz) (hF 13 (by decide))]; rw [bis (w := wz) (hF 14 (by decide))]; generalize u 15 = vx15 at *; rw [bis (w := wz) (hF 16 (by decide))]; rw [bis (w := wz) (hF 17 (by decide))]; rw [bis (w := wz) (hF 18 (by decide))]; rw [bis (w := wz) (hF 19 (by decide))]; generalize u 20 = vx20 at *; rw [bis (w := wz) (hF 21 (by decide))]; rw [bis (w := wz) (hF 22 (by decide))]; rw [bis (w := wz) (hF 23 (by decide))]; rw [bis (w := wz) (hF 24 (by decide))]; rw [bis (w := wz) (hF 25 (by decide))]; rw [bis (w := wz) (hF 26 (by decide))]; rw [bis (w := wz) (hF 27 (by decide))]; clear hF
        have hw_wz := hw_w9.trans (hb_wz.mono hw_w9.size)
        clear hw_w9
        replace HA := Lib.hid (HA.out.below hb_wz)
        replace HB := Lib.hid (HB.out.below hb_wz)
        replace HT := Lib.hid (HT.out.below hb_wz)
        replace HC3 := Lib.hid (Cl.bel HC3.out hb_wz)
        replace HC4 := Lib.hid (Cl.bel HC4.out hb_wz)
        replace HX := Lib.hid (HX.out.below hb_wz)
        replace HC5 := Lib.hid (Cl.bel HC5.out hb_wz)
        replace HP := Lib.hid (Box4.bel HP.out hb_wz)
        go_wp2
        go_ret
        exact ⟨rfl, hw_wz⟩
    · go_wp2_with fail
      (refine wp_region_belH (W := w9) [BIs (.agg #[.slice xa lc xc]), BIs (.agg #[.int .i64 pa, .int .i64 pb, .int .i64 pc, .int .i64 pd]), (BIs (.bool true)), BIs (.agg #[.slice aa la ac]), BIs (.agg #[.int .i64 pa, .int .i64 pb, .int .i64 pc, .int .i64 pd]), (BIs (.bool true)), BIs (.bool true), BIs undef, BIs undef, BIs undef, BIs (.bool true), BIs (.bool true), BIs (.bool true), BIs (.agg #[.slice aa la ac]), BIs (.agg #[.slice xa lc xc]), (BIs (.bool true)), BIs (.bool true), BIs (.bool true), BIs (.agg #[.slice ba lb bc]), BIs (.agg #[.slice xa lc xc]), (BIs (.bool true)), BIs (.bool true), BIs (.bool true), BIs (.slice ra 0 rc), BIs (.int .i64 0), BIs (.bool true), BIs (.bool true), BIs (.bool true)] (by kernel_rfl) (fun u => by simp only [frU, Act.put, List.setIfInBounds_toArray, List.set_cons_succ, List.set_cons_zero, Nat.zero_add, Nat.reduceAdd]; exact rfl) (by kernel_rfl) ⟨bst_is _, bst_is _, (bst_is _), bst_is _, bst_is _, (bst_is _), bst_is _, bst_is _, bst_is _, bst_is _, bst_is _, bst_is _, bst_is _, bst_is _, bst_is _, (bst_is _), bst_is _, bst_is _, bst_is _, bst_is _, (bst_is _), bst_is _, bst_is _, bst_is _, bst_is _, bst_is _, bst_is _, bst_is _, trivial⟩ ?_ ?_; exact ⟨stH (fun u w3 hC hd => .inl ⟨rfl, fun Q K hK => by (have e0 := (hC.cell (p := ⟨w2.heap.size, 0, none⟩) l5).trans c5; go_step; exact hK _ _ rfl (Below.refl _ _) rfl)⟩), stH (fun u w3 hC hd => .inl ⟨rfl, fun Q K hK => by (have e0 := (hC.cell (p := ⟨w8.heap.size, 0, none⟩) zl).trans z0; have e1 := (hC.cell (p := ⟨w8.heap.size, 1, none⟩) zl).trans z1; have e2 := (hC.cell (p := ⟨w8.heap.size, 2, none⟩) zl).trans z2; have e3 := (hC.cell (p := ⟨w8.heap.size, 3, none⟩) zl).trans z3; go_step; exact hK _ _ rfl (Below.refl _ _) rfl)⟩), stH (fun u w3 hC hd => .inl ⟨rfl, fun Q K hK => by (have hu := bis (w := w3) (hd 0 rfl); rw [hu] at hK ⊢; clear hu; have hu := bis (w := w3) (hd 1 rfl); rw [hu] at hK ⊢; clear hu; go_step; refine (implBH_b (HX.out.below hC) (HT.out.below hC) HR0.out).mono ?_; rintro e w4 ⟨rfl, hb4⟩; exact hK _ _ rfl hb4 rfl)⟩), stH (fun u w3 hC hd => .inl ⟨rfl, fun Q K hK => by (have e0 := (hC.cell (p := ⟨w1.heap.size, 0, none⟩) l3).trans c3; go_step; exact hK _ _ rfl (Below.refl _ _) rfl)⟩), stH (fun u w3 hC hd => .inl ⟨rfl, fun Q K hK => by (have e0 := (hC.cell (p := ⟨w8.heap.size, 0, none⟩) zl).trans z0; have e1 := (hC.cell (p := ⟨w8.heap.size, 1, none⟩) zl).trans z1; have e2 := (hC.cell (p := ⟨w8.heap.size, 2, none⟩) zl).trans z2; have e3 := (hC.cell (p := ⟨w8.heap.size, 3, none⟩) zl).trans z3; go_step; exact hK _ _ rfl (Below.refl _ _) rfl)⟩), stH (fun u w3 hC hd => .inl ⟨rfl, fun Q K hK => by (have hu := bis (w := w3) (hd 3 rfl); rw [hu] at hK ⊢; clear hu; have hu := bis (w := w3) (hd 4 rfl); rw [hu] at hK ⊢; clear hu; go_step; refine (implBH_b (HA.out.below hC) (HT.out.below hC) HR1.out).mono ?_; rintro e w4 ⟨rfl, hb4⟩; exact hK _ _ rfl hb4 rfl)⟩), stH (fun u w3 hC hd => .inl ⟨rfl, fun Q K hK => by (have hu := bis (w := w3) (hd 5 rfl); rw [hu] at hK ⊢; clear hu; go_step; exact hK _ _ rfl (Below.refl _ _) rfl)⟩), stH (fun u w3 hC hd => .inr ⟨by (have hu := bis (w := w3) (hd 6 rfl); rw [hu]; rfl), rfl⟩), stH (fun u w3 hC hd => .inr ⟨by (have hu := bis (w := w3) (hd 6 rfl); rw [hu]; rfl), rfl⟩), stH (fun u w3 hC hd => .inr ⟨by (have hu := bis (w := w3) (hd 6 rfl); rw [hu]; rfl), rfl⟩), stH (fun u w3 hC hd => .inl ⟨rfl, fun Q K hK => by (have hu := bis (w := w3) (hd 6 rfl); rw [hu] at hK ⊢; clear hu; go_step; exact hK _ _ rfl (Below.refl _ _) rfl)⟩), stH (fun u w3 hC hd => .inl ⟨rfl, fun Q K hK => by (have hu := bis (w := w3) (hd 2 rfl); rw [hu] at hK ⊢; clear hu; have hu := bis (w := w3) (hd 10 rfl); rw [hu] at hK ⊢; clear hu; go_step; exact hK _ _ rfl (Below.refl _ _) rfl)⟩), stH (fun u w3 hC hd => .inl ⟨rfl, fun Q K hK => by (have hu := bis (w := w3) (hd 9 rfl); rw [hu] at hK ⊢; clear hu; have hu := bis (w := w3) (hd 11 rfl); rw [hu] at hK ⊢; clear hu; go_step; exact hK _ _ rfl (Below.refl _ _) rfl)⟩), stH (fun u w3 hC hd => .inl ⟨by (have hu := bis (w := w3) (hd 12 rfl); rw [hu]; rfl), fun Q K hK => by (have e0 := (hC.cell (p := ⟨w1.heap.size, 0, none⟩) l3).trans c3; go_step; exact hK _ _ rfl (Below.refl _ _) rfl)⟩), stH (fun u w3 hC hd => .inl ⟨by (have hu := bis (w := w3) (hd 12 rfl); rw [hu]; rfl), fun Q K hK => by (have e0 := (hC.cell (p := ⟨w2.heap.size, 0, none⟩) l5).trans c5; go_step; exact hK _ _ rfl (Below.refl _ _) rfl)⟩), stH (fun u w3 hC hd => .inl ⟨by (have hu := bis (w := w3) (hd 12 rfl); rw [hu]; rfl), fun Q K hK => by (have hu := bis (w := w3) (hd 13 rfl); rw [hu] at hK ⊢; clear hu; have hu := bis (w := w3) (hd 14 rfl); rw [hu] at hK ⊢; clear hu; go_step; refine (implBW_b (HA.out.below hC) (HX.out.below hC) (HT.out.below hC) HWA.out).mono ?_; rintro e w4 ⟨rfl, hb4⟩; exact hK _ _ rfl hb4 rfl)⟩), stH (fun u w3 hC hd => .inl ⟨rfl, fun Q K hK => by (have hu := bis (w := w3) (hd 12 rfl); rw [hu] at hK ⊢; clear hu; have hu := bis (w := w3) (hd 15 rfl); rw [hu] at hK ⊢; clear hu; go_step; exact hK _ _ rfl (Below.refl _ _) rfl)⟩), stH (fun u w3 hC hd => .inl ⟨rfl, fun Q K hK => by (have hu := bis (w := w3) (hd 16 rfl); rw [hu] at hK ⊢; clear hu; go_step; exact hK _ _ rfl (Below.refl _ _) rfl)⟩), stH (fun u w3 hC hd => .inl ⟨by (have hu := bis (w := w3) (hd 17 rfl); rw [hu]; rfl), fun Q K hK => by (have e0 := (hC.cell (p := ⟨w1.heap.size + 1, 0, none⟩) l4).trans c4; go_step; exact hK _ _ rfl (Below.refl _ _) rfl)⟩), stH (fun u w3 hC hd => .inl ⟨by (have hu := bis (w := w3) (hd 17 rfl); rw [hu]; rfl), fun Q K hK => by (have e0 := (hC.cell (p := ⟨w2.heap.size, 0, none⟩) l5).trans c5; go_step; exact hK _ _ rfl (Below.refl _ _) rfl)⟩), stH (fun u w3 hC hd => .inl ⟨by (have hu := bis (w := w3) (hd 17 rfl); rw [hu]; rfl), fun Q K hK => by (have hu := bis (w := w3) (hd 18 rfl); rw [hu] at hK ⊢; clear hu; have hu := bis (w := w3) (hd 19 rfl); rw [hu] at hK ⊢; clear hu; go_step; refine (implBW_b (HB.out.below hC) (HX.out.below hC) (HT.out.below hC) HWB.out).mono ?_; rintro e w4 ⟨rfl, hb4⟩; exact hK _ _ rfl hb4 rfl)⟩), stH (fun u w3 hC hd => .inl ⟨rfl, fun Q K hK => by (have hu := bis (w := w3) (hd 17 rfl); rw [hu] at hK ⊢; clear hu; have hu := bis (w := w3) (hd 20 rfl); rw [hu] at hK ⊢; clear hu; go_step; exact hK _ _ rfl (Below.refl _ _) rfl)⟩), stH (fun u w3 hC hd => .inl ⟨rfl, fun Q K hK => by (have hu := bis (w := w3) (hd 21 rfl); rw [hu] at hK ⊢; clear hu; go_step; exact hK _ _ rfl (Below.refl _ _) rfl)⟩), stH (fun u w3 hC hd => .inl ⟨by (have hu := bis (w := w3) (hd 22 rfl); rw [hu]; rfl), fun Q K hK => by (go_step; exact hK _ _ rfl (Below.refl _ _) rfl)⟩), stH (fun u w3 hC hd => .inl ⟨by (have hu := bis (w := w3) (hd 22 rfl); rw [hu]; rfl), fun Q K hK => by (have hu := bis (w := w3) (hd 23 rfl); rw [hu] at hK ⊢; clear hu; go_step; exact hK _ _ rfl (Below.refl _ _) rfl)⟩), stH (fun u w3 hC hd => .inl ⟨by (have hu := bis (w := w3) (hd 22 rfl); rw [hu]; rfl), fun Q K hK => by (have hu := bis (w := w3) (hd 24 rfl); rw [hu] at hK ⊢; clear hu; go_step; exact hK _ _ rfl (Below.refl _ _) rfl)⟩), stH (fun u w3 hC hd => .inl ⟨rfl, fun Q K hK => by (have hu := bis (w := w3) (hd 22 rfl); rw [hu] at hK ⊢; clear hu; have hu := bis (w := w3) (hd 25 rfl); rw [hu] at hK ⊢; clear hu; go_step; exact hK _ _ rfl (Below.refl _ _) rfl)⟩), stH (fun u w3 hC hd => .inl ⟨rfl, fun Q K hK => by (have hu := bis (w := w3) (hd 26 rfl); rw [hu] at hK ⊢; clear hu; go_step; exact hK _ _ rfl (Below.refl _ _) rfl)⟩), trivial⟩); intro u wz hb_wz hF; rw [bis (w := wz) (hF 0 (by decide))]; rw [bis (w := wz) (hF 1 (by decide))]; generalize u 2 = vx2 at *; rw [bis (w := wz) (hF 3 (by decide))]; rw [bis (w := wz) (hF 4 (by decide))]; generalize u 5 = vx5 at *; rw [bis (w := wz) (hF 6 (by decide))]; rw [bis (w := wz) (hF 7 (by decide))]; rw [bis (w := wz) (hF 8 (by decide))]; rw [bis (w := wz) (hF 9 (by decide))]; rw [bis (w := wz) (hF 10 (by decide))]; rw [bis (w := wz) (hF 11 (by decide))]; rw [bis (w := wz) (hF 12 (by decide))]; rw [bis (w := wz) (hF 13 (by decide))]; rw [bis (w := wz) (hF 14 (by decide))]; generalize u 15 = vx15 at *; rw [bis (w := wz) (hF 16 (by decide))]; rw [bis (w := wz) (hF 17 (by decide))]; rw [bis (w := wz) (hF 18 (by decide))]; rw [bis (w := wz) (hF 19 (by decide))]; generalize u 20 = vx20 at *; rw [bis (w := wz) (hF 21 (by decide))]; rw [bis (w := wz) (hF 22 (by decide))]; rw [bis (w := wz) (hF 23 (by decide))]; rw [bis (w := wz) (hF 24 (by decide))]; rw [bis (w := wz) (hF 25 (by decide))]; rw [bis (w := wz) (hF 26 (by decide))]; rw [bis (w := wz) (hF 27 (by decide))]; clear hF
      have hw_wz := hw_w9.trans (hb_wz.mono hw_w9.size)
      clear hw_w9
      replace HA := Lib.hid (HA.out.below hb_wz)
      replace HB := Lib.hid (HB.out.below hb_wz)
      replace HT := Lib.hid (HT.out.below hb_wz)
      replace HC3 := Lib.hid (Cl.bel HC3.out hb_wz)
      replace HC4 := Lib.hid (Cl.bel HC4.out hb_wz)
      replace HX := Lib.hid (HX.out.below hb_wz)
      replace HC5 := Lib.hid (Cl.bel HC5.out hb_wz)
      replace HP := Lib.hid (Box4.bel HP.out hb_wz)
      go_wp2
      go_ret
      exact ⟨rfl, hw_wz⟩
end Go.Proofs.YtajcogpfmpehkaaDoor
