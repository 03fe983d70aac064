/- A region that ends in a store which waits for all others, through some of them. -/
import Derived.Test.YtfcbbahlhjdefaaDoorUSn
import Derived.Test.YtfcbbahlhjdefaaDoorDt
import Derived.Test.YtfcbbahlhjdefaaDoorUQe
import Derived.Test.YtfcbbahlhjdefaaDoorRgX
/- Tests hold: the program's. -/
namespace Go.Proofs.YtfcbbahlhjdefaaDoor
open Go.RowKit
set_option maxHeartbeats 2000000 in
set_option maxRecDepth 100000 in
theorem holds_any {f lo hi a b c d : Int} {n : Bool} (ht : Te.ok ⟨f, lo, hi, n⟩ = true) (w : World) :
    Calls Tryd.prog 54 #[.agg #[.int .i64 f, .int .i64 lo, .int .i64 hi, .bool n], .agg #[.int .i64 a, .int .i64 b, .int .i64 c, .int .i64 d]] w fun e w' => e = .returned (.bool (tholds ⟨f, lo, hi, n⟩ ⟨a, b, c, d⟩)) ∧ Below w.heap.size w w' := by
  have hf : f = 0 ∨ f = 1 ∨ f = 2 ∨ f = 3 := by
    have h := ht
    unfold Te.ok tvalid1 at h
    rw [Bool.and_eq_true, Bool.and_eq_true] at h
    have h1 := h.1.1
    simp [inB] at h1
    omega
  obtain ⟨W, hW⟩ : ∃ W, (w.alloc (.cells #[.int .i64 f, .int .i64 lo, .int .i64 hi, .bool n] 108)).alloc (.cells #[.int .i64 a, .int .i64 b, .int .i64 c, .int .i64 d] 27) = W := ⟨_, rfl⟩
  have hal : Below w.heap.size w W := by rw [← hW]; (repeat' (first | with_reducible exact Below.refl _ _ | with_reducible assumption | with_reducible refine Below.setCell ?_ ?_ _ | with_reducible refine Below.alloc ?_ ?_ _ | with_reducible refine Below.drew ?_ | with_reducible refine belDrewN ?_ _ | with_reducible refine Below.trans ?_ (Below.mono (by assumption) ?_) | omega | (simp; omega) | (simp; done)))
  have hz : w.heap.size + 1 < W.heap.size := by rw [← hW]; simp
  have HA := alloc2_cells w #[.int .i64 f, .int .i64 lo, .int .i64 hi, .bool n] #[.int .i64 a, .int .i64 b, .int .i64 c, .int .i64 d] 108 27
  rw [hW] at HA
  have t0 : W.cell? ⟨w.heap.size, 0, none⟩ = some (.int .i64 f) := (HA.1 0).1
  have t1 : W.cell? ⟨w.heap.size, 1, none⟩ = some (.int .i64 lo) := (HA.1 1).1
  have t2 : W.cell? ⟨w.heap.size, 2, none⟩ = some (.int .i64 hi) := (HA.1 2).1
  have t3 : W.cell? ⟨w.heap.size, 3, none⟩ = some (.bool n) := (HA.1 3).1
  have p0 : W.cell? ⟨w.heap.size + 1, 0, none⟩ = some (.int .i64 a) := (HA.2 0).1
  have p1 : W.cell? ⟨w.heap.size + 1, 1, none⟩ = some (.int .i64 b) := (HA.2 1).1
  have p2 : W.cell? ⟨w.heap.size + 1, 2, none⟩ = some (.int .i64 c) := (HA.2 2).1
  have p3 : W.cell? ⟨w.heap.size + 1, 3, none⟩ = some (.int .i64 d) := (HA.2 3).1
  have hz0 : w.heap.size < W.heap.size := by omega
  obtain ⟨x, hx⟩ : ∃ x, Pk.fld ⟨a, b, c, d⟩ f.toNat = x := ⟨_, rfl⟩
  have HX := Lib.hid hx
  clear HA
  go_enter Tryd.func54, Tryd.ntmps54
  go_wp2_with fail
  clear hW
  (refine wp_region_bel (W := W) [BIs (.agg #[.int .i64 a, .int .i64 b, .int .i64 c, .int .i64 d]), (BIs (.agg #[.int .i64 a, .int .i64 b, .int .i64 c, .int .i64 d])), BIs (.pointer (some ⟨w.heap.size, 0, none⟩)), BIs (.int .i64 f), (BIs (.int .i64 x)), BIs (.int .i64 x)] (by kernel_rfl) (fun u => by simp only [frU, Act.put, List.setIfInBounds_toArray, List.set_cons_succ, List.set_cons_zero, Nat.zero_add, Nat.reduceAdd]; exact rfl) (by kernel_rfl) ⟨bst_is _, (bst_is _), bst_is _, bst_is _, (bst_is _), bst_is _, trivial⟩ ?_ ?_; exact ⟨stB rfl (fun u w3 hC hd Q K hK => by (have z0 := (hC.cell (p := ⟨w.heap.size + 1, 0, none⟩) hz).trans p0; have z1 := (hC.cell (p := ⟨w.heap.size + 1, 1, none⟩) hz).trans p1; have z2 := (hC.cell (p := ⟨w.heap.size + 1, 2, none⟩) hz).trans p2; have z3 := (hC.cell (p := ⟨w.heap.size + 1, 3, none⟩) hz).trans p3; go_step; exact hK _ _ rfl (Below.refl _ _) rfl)), stB rfl (fun u w3 hC hd Q K hK => by (have hu := bis (w := w3) (hd 0 rfl); rw [hu] at hK ⊢; clear hu; go_step; refine (fields_any a b c d _).mono ?_; rintro e w4 ⟨rfl, hb4⟩; exact hK _ _ rfl hb4 rfl)), stB rfl (fun u w3 hC hd Q K hK => by (go_step; exact hK _ _ rfl (Below.refl _ _) rfl)), stB rfl (fun u w3 hC hd Q K hK => by (have hu := bis (w := w3) (hd 2 rfl); rw [hu] at hK ⊢; clear hu; have z0 := (hC.cell (p := ⟨w.heap.size, 0, none⟩) hz0).trans t0; go_step; exact hK _ _ rfl (Below.refl _ _) rfl)), stB rfl (fun u w3 hC hd Q K hK => by (have hu := bis (w := w3) (hd 1 rfl); rw [hu] at hK ⊢; clear hu; have hu := bis (w := w3) (hd 3 rfl); rw [hu] at hK ⊢; clear hu; rcases hf with rfl | rfl | rfl | rfl <;> (subst hx; go_step; exact hK _ _ rfl (Below.refl _ _) rfl))), stB rfl (fun u w3 hC hd Q K hK => by (have hu := bis (w := w3) (hd 4 rfl); rw [hu] at hK ⊢; clear hu; go_step; exact hK _ _ rfl (Below.refl _ _) rfl)), trivial⟩); intro u w9 hb_w9 hF; rw [bis (w := w9) (hF 0 (by decide))]; generalize u 1 = vx1 at *; rw [bis (w := w9) (hF 2 (by decide))]; rw [bis (w := w9) (hF 3 (by decide))]; generalize u 4 = vx4 at *; rw [bis (w := w9) (hF 5 (by decide))]; clear hF
  have q1 := (hb_w9.cell (p := ⟨w.heap.size, 1, none⟩) hz0).trans t1
  have q2 := (hb_w9.cell (p := ⟨w.heap.size, 2, none⟩) hz0).trans t2
  have q3 := (hb_w9.cell (p := ⟨w.heap.size, 3, none⟩) hz0).trans t3
  have HB := Lib.hid (hal.trans (hb_w9.mono hal.size))
  clear hb_w9 hal hx
  by_cases h1 : lo ≤ x
  · by_cases h2 : x ≤ hi
    · go_wp2
      go_ret
      exact ⟨by unfold tholds inB; rw [HX.out]; simp [h1, h2], HB.out⟩
    · go_wp2
      go_ret
      exact ⟨by unfold tholds inB; rw [HX.out]; simp [h1, decide_eq_false (show ¬ x ≤ hi by omega)], HB.out⟩
  · go_wp2
    go_ret
    exact ⟨by unfold tholds inB; rw [HX.out]; simp [decide_eq_false (show ¬ lo ≤ x by omega)], HB.out⟩
set_option maxHeartbeats 2000000 in
set_option maxRecDepth 100000 in
theorem allHold_any {lo : Nat} {v : Value} {ts : List Te} {a b c d : Int} (w : World) (hs : SlFr lo 4 Te.enc w v ts) (hv : ts.all Te.ok = true) (hl : ts.length ≤ 1000) :
    Calls Tryd.prog 39 #[v, .agg #[.int .i64 a, .int .i64 b, .int .i64 c, .int .i64 d]] w fun e w' => e = .returned (.bool (thold ts ⟨a, b, c, d⟩)) ∧ Below w.heap.size w w' := by
  obtain ⟨va, vc, rfl, h1, h2, hx⟩ := hs
  obtain ⟨W, hW⟩ : ∃ W, w.alloc (.cells #[.int .i64 a, .int .i64 b, .int .i64 c, .int .i64 d] 27) = W := ⟨_, rfl⟩
  have hal : Below w.heap.size w W := by rw [← hW]; exact (Below.refl _ _).alloc (Nat.le_refl _) _
  have hz0 : w.heap.size < W.heap.size := by rw [← hW]; simp
  have p0 : W.cell? ⟨w.heap.size, 0, none⟩ = some (.int .i64 a) := by rw [← hW]; simp
  have p1 : W.cell? ⟨w.heap.size, 1, none⟩ = some (.int .i64 b) := by rw [← hW]; simp
  have p2 : W.cell? ⟨w.heap.size, 2, none⟩ = some (.int .i64 c) := by rw [← hW]; simp
  have p3 : W.cell? ⟨w.heap.size, 3, none⟩ = some (.int .i64 d) := by rw [← hW]; simp
  obtain ⟨n, hn⟩ : ∃ n, ts.length = n := ⟨_, rfl⟩
  rw [hn] at h1 hl ⊢
  have HN := Lib.hid hn
  have HX := Lib.hid hx
  have HAL := Lib.hid hal
  clear hn hx hal
  go_enter Tryd.func39, Tryd.ntmps39
  go_wp2_with fail
  clear hW
  go_loopw [9] (fun i wr => ∃ j : Nat, j ≤ n ∧ i = .int .i64 j ∧ Hid (thold (ts.take j) ⟨a, b, c, d⟩ = true) ∧ Hid (Below W.heap.size W wr)) (fun i _ => n - (intOf i).toNat)
  case atStart => exact ⟨0, by omega, rfl, Lib.hid rfl, Lib.hid (Below.refl _ _)⟩
  case round =>
    obtain ⟨j, hj, rfl, HT, HB⟩ := hrel
    have hzr := HB.out.size
    by_cases hjn : j < n
    · have j3 : (j : Int) < (n : Int) := by omega
      have j4 : (0 : Int) ≤ (j : Int) := by omega
      obtain ⟨t, ht⟩ : ∃ t, ts[j]? = some t := ⟨_, List.getElem?_eq_getElem (by rw [HN.out]; exact hjn)⟩
      obtain ⟨bb, o, e, -, hbl, hcl⟩ := HX.out j t ht
      subst e
      have hBw := HAL.out.trans (HB.out.mono HAL.out.size)
      have d0 := (hBw.cell (p := ⟨bb, o + j * 4 + 0, none⟩) hbl).trans (hcl 0 _ rfl)
      have d1 := (hBw.cell (p := ⟨bb, o + j * 4 + 1, none⟩) hbl).trans (hcl 1 _ rfl)
      have d2 := (hBw.cell (p := ⟨bb, o + j * 4 + 2, none⟩) hbl).trans (hcl 2 _ rfl)
      have d3 := (hBw.cell (p := ⟨bb, o + j * 4 + 3, none⟩) hbl).trans (hcl 3 _ rfl)
      simp only [Nat.add_zero] at d0
      obtain ⟨V, hV⟩ : ∃ V, wr.alloc (.cells #[.int .i64 t.fld, .int .i64 t.lo, .int .i64 t.hi, .bool t.not] 108) = V := ⟨_, rfl⟩
      have hvl : Below wr.heap.size wr V := by rw [← hV]; exact (Below.refl _ _).alloc (Nat.le_refl _) _
      have k0 : V.cell? ⟨wr.heap.size, 0, none⟩ = some (.int .i64 t.fld) := by rw [← hV]; simp
      have k1 : V.cell? ⟨wr.heap.size, 1, none⟩ = some (.int .i64 t.lo) := by rw [← hV]; simp
      have k2 : V.cell? ⟨wr.heap.size, 2, none⟩ = some (.int .i64 t.hi) := by rw [← hV]; simp
      have k3 : V.cell? ⟨wr.heap.size, 3, none⟩ = some (.bool t.not) := by rw [← hV]; simp
      have hBV := HB.out.trans (hvl.mono hzr)
      have q0 := (hBV.cell (p := ⟨w.heap.size, 0, none⟩) hz0).trans p0
      have q1 := (hBV.cell (p := ⟨w.heap.size, 1, none⟩) hz0).trans p1
      have q2 := (hBV.cell (p := ⟨w.heap.size, 2, none⟩) hz0).trans p2
      have q3 := (hBV.cell (p := ⟨w.heap.size, 3, none⟩) hz0).trans p3
      have HBV := Lib.hid hBV
      have htok : Te.ok ⟨t.fld, t.lo, t.hi, t.not⟩ = true := (List.all_eq_true.1 hv) t (List.mem_of_getElem? ht)
      have HS := Lib.hid (show ts.take (j + 1) = ts.take j ++ [t] by rw [List.take_add_one, ht]; rfl)
      have HM := Lib.hid (List.mem_of_getElem? ht)
      clear hBw hvl hBV hcl ht
      go_wp2_with fail
      clear hV
      refine (holds_any htok _).mono ?_
      rintro e w2 ⟨rfl, hb2⟩
      have HB2 := Lib.hid (HBV.out.trans (hb2.mono HBV.out.size))
      clear hb2
      obtain ⟨r, hr⟩ : ∃ r, tholds ⟨t.fld, t.lo, t.hi, t.not⟩ ⟨a, b, c, d⟩ = r := ⟨_, rfl⟩
      rw [hr]
      have HR := Lib.hid hr
      clear hr
      cases r
      · go_wp2
        go_ret
        refine ⟨?_, HAL.out.trans (HB2.out.mono HAL.out.size)⟩
        have : thold ts ⟨a, b, c, d⟩ = false := by
          unfold thold
          rw [List.all_eq_false]
          exact ⟨t, HM.out, by rw [show tholds t _ = false from HR.out]; simp⟩
        rw [this]; rfl
      · go_wp2
        go_roundw
        case rel =>
          refine ⟨j + 1, by omega, by go_num, Lib.hid ?_, HB2⟩
          have h1 := HT.out
          unfold thold at h1 ⊢
          rw [HS.out, List.all_append, h1, List.all_cons, List.all_nil, show tholds t _ = true from HR.out]; rfl
        case measure => simp [intOf]; omega
    · go_wp2
      go_ret
      refine ⟨?_, HAL.out.trans (HB.out.mono HAL.out.size)⟩
      have h1 := HT.out
      rw [List.take_of_length_le (by rw [HN.out]; omega)] at h1
      rw [h1]; rfl
end Go.Proofs.YtfcbbahlhjdefaaDoor
namespace Go.Proofs.YtfcbbahlhjdefaaDoor
open Go.RowKit
section
variable (P : Program) (N : Nat) (C : Nat → World → Prop) (E : World → World → Prop) (F : Nat → World → Value → Prop) (D : World → Prop) (fr : (Nat → Value) → Act)
def StepsL : List Oper → Nat → Prop
  | [], _ => True
  | [o], _ => o.guard = none ∧ ∀ (m : Nat) (u : Nat → Value) (w : World), m < N → C m w → (∀ j, depOn o j = true → F j w (u j)) →
      ∀ (Q : Exit → Act → World → Prop) (K : Act → World → Prop), (∀ a' w', a' = (fr u).put o.dst (slotOf o.dst a') → D w' → K a' w') → o.wp P (fr u) w K Q
  | o :: r, i => StepS P N C E F fr i o ∧ StepsL r (i + 1)
end
section
variable {P : Program} {l : List Oper} {C : Nat → World → Prop} {E : World → World → Prop} {F : Nat → World → Value → Prop} {D : World → Prop} {fr : (Nat → Value) → Act}
def allReach (l : List Oper) : Bool := (List.range (l.length - 1)).all fun i => reachB l l.length (l.length - 1) i
theorem stepsL_ok (n : Nat) (hst : ∀ i w w' v, E w w' → F i w v → F i w' v) (hall : ∀ i, i < n → reachB l (n + 1) n i = true) : ∀ (r : List Oper) (i : Nat), i + r.length = n + 1 → StepsL P (n + 1) C E F D fr r i → StepsOk2 P l (CS n C D) (FSk2 n F (fun _ _ _ => True)) fr r i
  | [], _, _, _ => trivial
  | [o], i, hi, h => by
    simp only [List.length_singleton] at hi
    obtain rfl : i = n := by omega
    refine ⟨fun L u w h1 h2 h3 h4 => ⟨fun _ Q K hK => ?_, fun hw => by simp [Region.wanted, h.1] at hw⟩, trivial⟩
    have hC : C (L.count true) w := by
      rcases h2.2 with h5 | h5
      · rw [h1] at h5; simp at h5
      · exact h5.2
    have hnt : L[i]? ≠ some true := by rw [h1]; simp
    have hset : (L.set i true)[i]? = some true := List.getElem?_set_self (List.getElem?_eq_some_iff.1 h1).1
    have hnt2 : ∀ {p : Prop}, ¬ (L[i]? = some true ∧ p) := fun h => hnt h.1
    exact h.2 (L.count true) u w (by have := count_true_lt h1; have := h2.1; omega) hC (fun j hj => (((h3 j hj).2).resolve_left hnt2).2) Q K
      (fun a' w' ha hD => hK a' w' ha ⟨by rw [List.length_set]; exact h2.1, .inl ⟨hset, hD⟩⟩ (.inl ⟨hset, fun _ => trivial⟩) (fun j _ _ _ => .inl ⟨hset, fun _ => trivial⟩))
  | o :: p :: r, i, hi, h => by
    refine ⟨fun L u w h1 h2 h3 h4 => ⟨fun _ Q K hK => ?_, fun hw => by simp [Region.wanted, h.1.1] at hw⟩, stepsL_ok n hst hall (p :: r) (i + 1) (by simp only [List.length_cons] at hi ⊢; omega) h.2⟩
    have hin : i < n := by simp only [List.length_cons] at hi; omega
    have hC : L[n]? = some false ∧ C (L.count true) w := by
      rcases h2.2 with h5 | h5
      · have := reach_done h4 _ _ _ (hall i hin) h5.1
        rw [h1] at this; cases this
      · exact h5
    have hnt : L[n]? ≠ some true := by rw [hC.1]; simp
    refine h.1.2 (L.count true) u w (by have := count_true_lt hC.1; have := h2.1; omega) hC.2 (fun j hj => (((h3 j hj).2).resolve_left (fun h => hnt h.1)).2) Q K (fun a' w' ha hC' hE hF => ?_)
    refine hK a' w' ha ⟨by rw [List.length_set]; exact h2.1, .inr ⟨by rw [List.getElem?_set_ne (by omega)]; exact hC.1, by rw [count_true_set h1]; exact hC'⟩⟩ (.inr ⟨by rw [List.getElem?_set_ne (by omega)]; exact hC.1, hF⟩) (fun j hj hLj hx => .inr ⟨by rw [List.getElem?_set_ne (by omega)]; exact hC.1, hst j _ _ _ hE (hx.resolve_left (fun h => hnt h.1)).2⟩)
theorem wp_region_lastR {id : Nat} {Q : Exit → Act → World → Prop} {a0 : Act} {w : World} (C : Nat → World → Prop) (E : World → World → Prop) (F : Nat → World → Value → Prop) (D : World → Prop) (n : Nat)
    (hm : P.follows .mixedOrders = true) (hn : l.length = n + 1) (hfr : ∀ u, frU u l 0 a0 = fr u) (hd : (dstsApart l && depsBefore l 0) = true) (hla : allReach l = true)
    (hst : ∀ i w w' v, E w w' → F i w v → F i w' v) (h0 : C 0 { w with drawn := w.drawn + 1 }) (hs : StepsL P (n + 1) C E F D fr l 0)
    (hend : ∀ u w', D w' → Q .normal (fr u) w') : (Code.region id l.toArray true).wp P Q a0 w := by
  have hall : ∀ i, i < n → reachB l (n + 1) n i = true := by
    intro i hi
    unfold allReach at hla
    rw [hn] at hla
    exact (List.all_eq_true.1 hla) i (List.mem_range.2 (by omega))
  refine wp_region_rel2 (CS n C D) (FSk2 n F (fun _ _ _ => True)) hm hfr hd ⟨by simp [hn], .inr ⟨by simp [hn], by rw [show (List.replicate l.length false).count true = 0 from by simp [List.count_replicate]]; exact h0⟩⟩ (stepsL_ok n hst hall l 0 (by omega) hs) (fun L u w' hL hC _ => hend u w' ?_)
  rcases hC.2 with h | h
  · exact h.2
  · have := hL n (by omega)
    rw [h.1] at this; simp at this
end
end Go.Proofs.YtfcbbahlhjdefaaDoor
