/- The box of tests: the program's walk. -/
import Derived.Test.YtfcbbahlhjdefaaDoorFdS
import Derived.Test.YtfcbbahlhjdefaaDoorRsH
import Derived.Test.YtfcbbahlhjdefaaDoorUfP
import Derived.Test.YtfcbbahlhjdefaaDoorUSn
namespace Go.Proofs.YtfcbbahlhjdefaaDoor
open Go.RowKit
theorem sp_append1 {lo : Nat} {w : World} {v vx : Value} {xs : List Sp} {x : Sp} (ty : TypeId) (ho : OwnSp lo w v xs) (hx : SlAt 2 Sp.enc w vx [x]) (hb : xs.length ≤ 1000) (hlo : lo ≤ w.heap.size) :
    ∃ v' w', (Builtin.append_ #[65, 65] ty #[v, vx]).run Tryd.prog w = .ok v' w' ∧ OwnSp lo w' v' (xs ++ [x]) ∧ Below lo w w' := by
  obtain ⟨i0, hi, hy0, hy1, hy2⟩ := info_parts infoSp
  have hone : ∀ u ∈ [x].flatMap Sp.enc, u.oneCell' = true := fun u hu => by
    simp only [List.flatMap_cons, List.flatMap_nil, List.append_nil, Sp.enc, List.mem_cons, List.not_mem_nil, or_false] at hu
    rcases hu with rfl | rfl <;> rfl
  obtain ⟨v', w', hrun, hown, hgr, hat⟩ := own_append_all (sz := 2) (enc := Sp.enc) (by omega) (fun _ => rfl) (P := Tryd.prog) 65 ty 64 i0 _ 16 Tryd.underlying65 hi hy0 hy1 hy2 rfl hone ho hx (by simp; omega) (by simp only [maxLen, List.length_cons, List.length_nil]; omega) hlo
  exact ⟨v', w', hrun, hown, (Below.refl _ _).grown hgr hlo (fun z hz => (World.ownsRow.lt ho z hz).1)⟩
theorem litSp_at (w : World) (x y : Int) (ty : TypeId) : SlAt 2 Sp.enc (w.alloc (.cells #[.int .i64 x, .int .i64 y] ty)) (.slice (some ⟨w.heap.size, 0, none⟩) 1 1) [⟨x, y⟩] := by
  refine ⟨_, 1, rfl, by simp, by simp [maxLen], fun k z hk => ?_⟩
  match k, hk with
  | 0, hk =>
    cases hk
    refine ⟨w.heap.size, 0, rfl, by simp, fun j u hj => ?_⟩
    have := cellsNew w (Sp.enc ⟨x, y⟩) ty j u hj
    rwa [Addr.add_lit] at this
  | k + 1, hk => simp at hk
set_option maxHeartbeats 2000000 in
set_option maxRecDepth 100000 in
theorem spansI_any (f : Nat) (lo hi : Int) (q : Bool) (w : World) (ht : Tab w) (hf : f < 4) (h : tvalid1 f lo hi = true) :
    Calls Tryd.prog 62 #[.agg #[.int .i64 f, .int .i64 lo, .int .i64 hi, .bool q]] w (RetSp (tspans ⟨f, lo, hi, q⟩) w) := by
  obtain ⟨g0, g1, g2⟩ := tvalid1_iff h
  obtain ⟨T, hT⟩ : ∃ T, top f = T := ⟨_, rfl⟩
  have hT2 : T ≤ 65535 := by rw [← hT]; exact (top_le hf).2
  have HE := Lib.hid (show tspans ⟨f, lo, hi, q⟩ = if q then (if 0 < lo then [⟨0, lo - 1⟩] else []) ++ (if hi < T then [⟨hi + 1, T⟩] else []) else [⟨lo, hi⟩] from by
    unfold tspans
    simp only [Int.toNat_natCast, hT]
    cases q
    · rfl
    · simp only [if_true]
      unfold sother
      unfold sother
      congr 1)
  rw [hT] at g2
  have HT := Lib.hid hT
  obtain ⟨W, hW⟩ : ∃ W, w.alloc (.cells #[.int .i64 f, .int .i64 lo, .int .i64 hi, .bool q] 108) = W := ⟨_, rfl⟩
  have hal : Below w.heap.size w W := by rw [← hW]; exact (Below.refl _ _).alloc (Nat.le_refl _) _
  have hzW : w.heap.size < W.heap.size := by rw [← hW]; simp
  have e0 : W.cell? ⟨w.heap.size, 0, none⟩ = some (.int .i64 f) := by rw [← hW]; simp
  have e1 : W.cell? ⟨w.heap.size, 1, none⟩ = some (.int .i64 lo) := by rw [← hW]; simp
  have e2 : W.cell? ⟨w.heap.size, 2, none⟩ = some (.int .i64 hi) := by rw [← hW]; simp
  have e3 : W.cell? ⟨w.heap.size, 3, none⟩ = some (.bool q) := by rw [← hW]; simp
  have HTab := Lib.hid ht
  clear h ht hT
  go_enter Tryd.func62, Tryd.ntmps62
  cases q
  · have HE2 := Lib.hid (show tspans ⟨f, lo, hi, false⟩ = [⟨lo, hi⟩] from HE.out)
    have hO : OwnSp w.heap.size (W.alloc (.cells #[.int .i64 lo, .int .i64 hi] 64)) (.slice (some ⟨W.heap.size, 0, none⟩) 1 1) [⟨lo, hi⟩] := litSp1 (by omega)
    have hal1 : Below w.heap.size w (W.alloc (.cells #[.int .i64 lo, .int .i64 hi] 64)) := hal.alloc (by omega) _
    clear HE
    go_wp2
    go_ret
    exact ⟨_, rfl, by rw [HE2.out]; exact hO, hal1⟩
  · have HE2 := Lib.hid (show tspans ⟨f, lo, hi, true⟩ = (if 0 < lo then [⟨0, lo - 1⟩] else []) ++ (if hi < T then [⟨hi + 1, T⟩] else []) from HE.out)
    clear HE
    by_cases h1 : 0 < lo
    · have HE3 := Lib.hid (show tspans ⟨f, lo, hi, true⟩ = [⟨0, lo - 1⟩] ++ (if hi < T then [⟨hi + 1, T⟩] else []) by rw [HE2.out, if_pos h1])
      have hal1 : Below W.heap.size W (W.alloc (.cells #[.int .i64 0, .int .i64 (lo - 1)] 64)) := (Below.refl _ _).alloc (Nat.le_refl _) _
      obtain ⟨v1, w1, hrun, hO, hB⟩ := sp_append1 (lo := W.heap.size) (xs := []) 65 (OwnSl.nil _ _ _ _ _) (litSp_at W 0 (lo - 1) 64) (by simp) (by simp)
      have HO := Lib.hid hO
      have hw1 : Below W.heap.size W w1 := hal1.trans hB
      clear hO hB hal1 HE2
      have hz1 := hw1.size
      have f0 := (hw1.cell (p := ⟨w.heap.size, 0, none⟩) hzW).trans e0
      have f2 := (hw1.cell (p := ⟨w.heap.size, 2, none⟩) hzW).trans e2
      have hww : Below w.heap.size w w1 := hal.trans (hw1.mono (by omega))
      have HT1 := Lib.hid (HTab.out.below hww)
      go_wp2_with (at_builtin; refine wpList_append_run rfl _ _ 65 rfl rfl rfl hrun ?_)
      refine (FieldTop_any f hf _ HT1.out).mono ?_
      rintro e _ ⟨rfl, rfl⟩
      rw [HT.out]
      by_cases h2 : hi < T
      · have HE4 := Lib.hid (show tspans ⟨f, lo, hi, true⟩ = [⟨0, lo - 1⟩] ++ [⟨hi + 1, T⟩] by rw [HE3.out, if_pos h2])
        have hal2 : Below w1.heap.size w1 (w1.alloc (.cells #[.int .i64 (hi + 1), .int .i64 T] 64)) := (Below.refl _ _).alloc (Nat.le_refl _) _
        obtain ⟨v2, w2, hrun2, hO2, hB2⟩ := sp_append1 (lo := W.heap.size) (xs := [⟨0, lo - 1⟩]) 65 (OwnSl.kept HO.out hal2) (litSp_at w1 (hi + 1) T 64) (by simp) (by (try simp) <;> omega)
        have HO2 := Lib.hid hO2
        have hw2 : Below w.heap.size w w2 := (hww.trans (hal2.mono (by omega))).trans (hB2.mono (by omega))
        clear hO2 hB2 hal2 HE3
        go_wp2_with (at_builtin; refine wpList_append_run rfl _ _ 65 rfl rfl rfl hrun2 ?_)
        go_ret
        exact ⟨_, rfl, by rw [HE4.out]; exact OwnSl.mono HO2.out (by omega), hw2⟩
      · have HE4 := Lib.hid (show tspans ⟨f, lo, hi, true⟩ = [⟨0, lo - 1⟩] by rw [HE3.out, if_neg h2]; rfl)
        clear HE3
        go_wp2
        go_ret
        exact ⟨_, rfl, by rw [HE4.out]; exact OwnSl.mono HO.out (by omega), hww⟩
    · have HE3 := Lib.hid (show tspans ⟨f, lo, hi, true⟩ = [] ++ (if hi < T then [⟨hi + 1, T⟩] else []) by rw [HE2.out, if_neg h1])
      have HO := Lib.hid (OwnSl.nil W.heap.size 64 2 Sp.enc W : OwnSp W.heap.size W (.slice none 0 0) [])
      have hw1 : Below W.heap.size W W := Below.refl _ _
      clear HE2
      have hz1 := hw1.size
      have f0 := (hw1.cell (p := ⟨w.heap.size, 0, none⟩) hzW).trans e0
      have f2 := (hw1.cell (p := ⟨w.heap.size, 2, none⟩) hzW).trans e2
      have hww : Below w.heap.size w W := hal.trans (hw1.mono (by omega))
      have HT1 := Lib.hid (HTab.out.below hww)
      go_wp2_with fail
      refine (FieldTop_any f hf _ HT1.out).mono ?_
      rintro e _ ⟨rfl, rfl⟩
      rw [HT.out]
      by_cases h2 : hi < T
      · have HE4 := Lib.hid (show tspans ⟨f, lo, hi, true⟩ = ([] : List Sp) ++ [⟨hi + 1, T⟩] by rw [HE3.out, if_pos h2])
        have hal2 : Below W.heap.size W (W.alloc (.cells #[.int .i64 (hi + 1), .int .i64 T] 64)) := (Below.refl _ _).alloc (Nat.le_refl _) _
        obtain ⟨v2, w2, hrun2, hO2, hB2⟩ := sp_append1 (lo := W.heap.size) (xs := ([] : List Sp)) 65 (OwnSl.kept HO.out hal2) (litSp_at W (hi + 1) T 64) (by simp) (by (try simp) <;> omega)
        have HO2 := Lib.hid hO2
        have hw2 : Below w.heap.size w w2 := (hww.trans (hal2.mono (by omega))).trans (hB2.mono (by omega))
        clear hO2 hB2 hal2 HE3
        go_wp2_with (at_builtin; refine wpList_append_run rfl _ _ 65 rfl rfl rfl hrun2 ?_)
        go_ret
        exact ⟨_, rfl, by rw [HE4.out]; exact OwnSl.mono HO2.out (by omega), hw2⟩
      · have HE4 := Lib.hid (show tspans ⟨f, lo, hi, true⟩ = ([] : List Sp) by rw [HE3.out, if_neg h2]; rfl)
        clear HE3
        go_wp2
        go_ret
        exact ⟨_, rfl, by rw [HE4.out]; exact OwnSl.mono HO.out (by omega), hww⟩
/-- The sets of a box under way in block S. -/
def TS (lo S : Nat) (w : World) (b : Bx) : Prop := (∀ j, j < 4 → ∃ v, w.cell? ⟨S, j, none⟩ = some v ∧ Sps lo w v (b.getD j []) ∧ SpV (fun k => k = S) w v (b.getD j [])) ∧ (∀ j, w.frozen? ⟨S, j, none⟩ = false) ∧ S < w.heap.size
theorem TS.below {lo S : Nat} {w w' : World} {b : Bx} (h : TS lo S w b) (hb : Below w.heap.size w w') : TS lo S w' b :=
  ⟨fun j hj => by
    obtain ⟨v, h1, h2, h3⟩ := h.1 j hj
    exact ⟨v, (hb.cell (p := ⟨S, j, none⟩) h.2.2).trans h1, h2.below hb, h3.below hb⟩, fun j => (hb.frozen (p := ⟨S, j, none⟩) h.2.2).trans (h.2.1 j), Nat.lt_of_lt_of_le h.2.2 hb.size⟩
theorem SpV.lo {P : Nat → Prop} {lo : Nat} {w w' : World} {v : Value} {xs : List Sp} (h : Sps lo w v xs) (h2 : SpV P w v xs) (hz : w.heap.size ≤ w'.heap.size) (hk : ∀ k, k < w.heap.size → ¬ P k → w'.heap[k]? = w.heap[k]?) : Sps lo w' v xs := by
  obtain ⟨a, cap, rfl, h3, h4, hx⟩ := h
  refine ⟨a, cap, rfl, h3, h4, fun k x hkx => ?_⟩
  obtain ⟨bb, o, ha, h5, h6, hc⟩ := hx k x hkx
  refine ⟨bb, o, ha, h5, by omega, fun j u hj => ?_⟩
  subst ha
  have hn := h2.2 _ _ _ rfl (by intro e; subst e; simp at hkx)
  exact (World.cell?_of_block (hk bb h6 hn)).trans (hc j u hj)
theorem TS.step {lo S : Nat} {w : World} {b : Bx} (h : TS lo S w b) {k : Nat} (hk : k < 4) (hb : b.length = 4) {v : Value} {xs : List Sp} (h1 : Sps lo w v xs) (h2 : SpV (fun k => k = S) w v xs) : TS lo S (w.setCell ⟨S, k, none⟩ v) (b.set k xs) := by
  have hz : w.heap.size ≤ (w.setCell ⟨S, k, none⟩ v).heap.size := by simp
  have hkk : ∀ j, j < w.heap.size → ¬ (j = S) → (w.setCell ⟨S, k, none⟩ v).heap[j]? = w.heap[j]? := fun j _ j2 => Below.heap_setCell _ _ _ _ j2
  refine ⟨fun j hj => ?_, fun j => by rw [World.frozen?_setCell]; exact h.2.1 j, by simpa using h.2.2⟩
  obtain ⟨u, g1, g2, g3⟩ := h.1 j hj
  rw [getD_set (by rw [hb]; exact hk)]
  by_cases e : k = j
  · subst e
    rw [if_pos rfl]
    exact ⟨v, World.cell?_setCell_same' _ _ _ (by rw [g1]; rfl), SpV.lo h1 h2 hz hkk, h2.keep hz (fun z z1 z2 => ⟨hkk z z1 z2, z2⟩)⟩
  · rw [if_neg e]
    exact ⟨u, by rw [World.cell?_setCell_other _ _ _ _ (fun e2 => e (Addr.mk.inj e2).2.1)]; exact g1, SpV.lo g2 g3 hz hkk, g3.keep hz (fun z z1 z2 => ⟨hkk z z1 z2, z2⟩)⟩
set_option maxHeartbeats 4000000 in
set_option maxRecDepth 100000 in
theorem testsSides_any {lo : Nat} {ts : List Te} {v : Value} {w : World} (hs : Tss lo w v ts) (hv : tsvalid ts = true) (ht : Tab w) :
    Calls Tryd.prog 51 #[v] w fun e w' => ∃ a0 n0 p0 a1 n1 p1 a2 n2 p2 a3 n3 p3, e = .returned (.agg #[.slice a0 n0 p0, .slice a1 n1 p1, .slice a2 n2 p2, .slice a3 n3 p3]) ∧ All2 (Sps w.heap.size w') [.slice a0 n0 p0, .slice a1 n1 p1, .slice a2 n2 p2, .slice a3 n3 p3] (tbox ts) ∧ Below w.heap.size w w' := by
  obtain ⟨ha, hl⟩ : (∀ (k : Nat) t, ts[k]? = some t → t.ok = true) ∧ ts.length ≤ 6 := by
    unfold tsvalid at hv
    rw [Bool.and_eq_true, List.all_eq_true, decide_eq_true_eq] at hv
    exact ⟨fun k t hk => hv.1 t (List.mem_of_getElem? hk), hv.2⟩
  obtain ⟨a, cap, rfl, hlc, hcm⟩ := hs.form
  unfold maxLen at hcm
  generalize hn : ts.length = n at *
  have HN := Lib.hid hn
  have HA := Lib.hid ha
  have HV := Lib.hid hv
  obtain ⟨W, hW⟩ : ∃ W, (w.alloc (.cells #[.slice none 0 0, .slice none 0 0, .slice none 0 0, .slice none 0 0] 84)) = W := ⟨_, rfl⟩
  have hal : Below w.heap.size w W := by rw [← hW]; (repeat' (first | with_reducible exact Below.refl _ _ | with_reducible assumption | with_reducible refine Below.setCell ?_ ?_ _ | with_reducible refine Below.alloc ?_ ?_ _ | with_reducible refine Below.drew ?_ | with_reducible refine belDrewN ?_ _ | with_reducible refine Below.trans ?_ (Below.mono (by assumption) ?_) | omega | (simp; omega) | (simp; done)))
  have qs : W.heap.size = w.heap.size + 1 := by rw [← hW]; simp
  have HR := Lib.hid (show (∀ j, j < 4 → W.cell? ⟨w.heap.size, j, none⟩ = some (.slice none 0 0)) ∧ ∀ j, W.frozen? ⟨w.heap.size, j, none⟩ = false from by
    rw [← hW]
    exact ⟨fun j hj => by rcases (by omega : j = 0 ∨ j = 1 ∨ j = 2 ∨ j = 3) with rfl | rfl | rfl | rfl <;> simp, fun j => frz_new w _ _ j⟩)
  have HSW := Lib.hid (hs.below hal)
  have HTab := Lib.hid ht
  clear hn hs ha hv ht
  go_enter Tryd.func51, Tryd.ntmps51
  go_wp2_with fail
  refine (allSides_any W (HTab.out.below hal)).mono ?_
  rintro e w1 ⟨u0, u1, u2, u3, rfl, hu, hb1⟩
  obtain ⟨a0, n0, p0, a1, n1, p1, a2, n2, p2, a3, n3, p3, rfl, rfl, rfl, rfl⟩ := sl4_form hu
  have hz1 := hb1.size
  obtain ⟨V, hV⟩ : ∃ V, w1.alloc (.cells #[.slice a0 n0 p0, .slice a1 n1 p1, .slice a2 n2 p2, .slice a3 n3 p3] 84) = V := ⟨_, rfl⟩
  have hb2 : Below w1.heap.size w1 V := by rw [← hV]; exact (Below.refl _ _).alloc (Nat.le_refl _) _
  have hzV : V.heap.size = w1.heap.size + 1 := by rw [← hV]; simp
  have HTS0 := Lib.hid (show TS W.heap.size w1.heap.size V ball from by
    refine ⟨fun j hj => ?_, fun j => by rw [← hV]; exact frz_new w1 _ _ j, by omega⟩
    have key : ∀ (i : Nat) x y, [Value.slice a0 n0 p0, .slice a1 n1 p1, .slice a2 n2 p2, .slice a3 n3 p3][i]? = some x → ball[i]? = some y → Sps W.heap.size V x y ∧ SpV (fun k => k = w1.heap.size) V x y := fun i x y hx hy => by
      have g := hu.2 i x y hx hy
      exact ⟨g.below hb2, SpV.older (SpV.highX (X := fun k => k < W.heap.size) g (fun _ hk => hk)) hb2 (fun k hk => .inl (by omega))⟩
    match j, hj with
    | 0, _ => exact ⟨_, by rw [← hV]; simp, key 0 _ _ rfl rfl⟩
    | 1, _ => exact ⟨_, by rw [← hV]; simp, key 1 _ _ rfl rfl⟩
    | 2, _ => exact ⟨_, by rw [← hV]; simp, key 2 _ _ rfl rfl⟩
    | 3, _ => exact ⟨_, by rw [← hV]; simp, key 3 _ _ rfl rfl⟩
    | j + 4, hj => omega)
  have hWV : Below W.heap.size W V := hb1.trans (hb2.mono hz1)
  clear hu hb1 hb2
  go_wp2_with fail
  go_loopw [9] (fun i wr => ∃ (k : Nat) (bx : Bx), k ≤ n ∧ Hid (bx = (ts.take k).foldl tbox1 ball) ∧ i = .int .i64 k ∧ Below W.heap.size W wr ∧ Hid (TS W.heap.size w1.heap.size wr bx) ∧ Hid (BGood (1 + k) bx)) (fun i _ => n - (intOf i).toNat)
  case atStart => exact ⟨0, ball, by omega, Lib.hid rfl, rfl, hWV, HTS0, Lib.hid BGood.ball⟩
  case round =>
    obtain ⟨k, bx, hk, HE, rfl, hbr, HTS, HX⟩ := hrel
    have hzr := hbr.size
    have hSr := HTS.out.2.2
    clear HTS0 hWV hzV hV
    by_cases hlt : k < n
    · have i1 : (k : Int) < (n : Int) := by omega
      have i2 : (0 : Int) ≤ (k : Int) := by omega
      obtain ⟨bb, o, f, tlo, thi, q, rfl, hbl, hxk, c0, c1, c2, c3⟩ := (HSW.out.z).at (k := k) (by rw [HN.out]; exact hlt)
      have HOK := Lib.hid (HA.out k _ hxk)
      obtain ⟨f, rfl, hf4⟩ := tvalid1_fld (HA.out k _ hxk)
      have hvt : tvalid1 (f : Int) tlo thi = true := HA.out k _ hxk
      replace c0 := (hbr.cell (p := ⟨bb, o + k * 4, none⟩) hbl).trans c0
      replace c1 := (hbr.cell (p := ⟨bb, o + k * 4 + 1, none⟩) hbl).trans c1
      replace c2 := (hbr.cell (p := ⟨bb, o + k * 4 + 2, none⟩) hbl).trans c2
      replace c3 := (hbr.cell (p := ⟨bb, o + k * 4 + 3, none⟩) hbl).trans c3
      have HE2 := Lib.hid (show tbox1 bx ⟨f, tlo, thi, q⟩ = (ts.take (k + 1)).foldl tbox1 ball by rw [List.take_add_one, hxk, List.foldl_append, ← HE.out]; rfl)
      obtain ⟨V2, hV2⟩ : ∃ V2, wr.alloc (.cells #[.int .i64 f, .int .i64 tlo, .int .i64 thi, .bool q] 108) = V2 := ⟨_, rfl⟩
      have hb3 : Below wr.heap.size wr V2 := by rw [← hV2]; exact (Below.refl _ _).alloc (Nat.le_refl _) _
      have hz2 : wr.heap.size < V2.heap.size := by rw [← hV2]; simp
      have t0 : V2.cell? ⟨wr.heap.size, 0, none⟩ = some (.int .i64 f) := by rw [← hV2]; simp
      have t1 : V2.cell? ⟨wr.heap.size, 1, none⟩ = some (.int .i64 tlo) := by rw [← hV2]; simp
      have t2 : V2.cell? ⟨wr.heap.size, 2, none⟩ = some (.int .i64 thi) := by rw [← hV2]; simp
      have t3 : V2.cell? ⟨wr.heap.size, 3, none⟩ = some (.bool q) := by rw [← hV2]; simp
      have HTSV := Lib.hid (HTS.out.below hb3)
      obtain ⟨sv, s0, s1, s2⟩ := HTSV.out.1 f hf4
      obtain ⟨sa, sc, rfl, hsl, hsm⟩ := s1.form
      have hfz := HTSV.out.2.1 f
      have hS2 := HTSV.out.2.2
      have HS1 := Lib.hid s1
      obtain ⟨gx, gl⟩ := HX.out.2 f hf4
      have HGX := Lib.hid gx
      have htg := tspans_good HOK.out
      simp only [Int.toNat_natCast] at htg
      have HTG := Lib.hid htg
      obtain ⟨L, hL⟩ : ∃ L, smeet (bx.getD f []) (tspans ⟨f, tlo, thi, q⟩) = L := ⟨_, rfl⟩
      have HL := Lib.hid hL
      have HEL := Lib.hid (show bx.set f L = tbox1 bx ⟨f, tlo, thi, q⟩ by unfold tbox1; rw [hL.symm]; rfl)
      have hL40 : L.length ≤ 40 := by
        rw [← hL]
        have := smeet_grow gx htg.1 htg.2
        omega
      have HSL := Lib.hid (show slim L = L by unfold slim; rw [if_pos hL40])
      have HBT := Lib.hid (show Tab V2 from HTab.out.below (hal.trans ((hbr.trans (hb3.mono hzr)).mono (by omega))))
      obtain ⟨z1, z2⟩ := top_le hf4
      have hWV2 : Below W.heap.size W V2 := hbr.trans (hb3.mono hzr)
      obtain ⟨nn, hnn⟩ : ∃ nn, (bx.getD f []).length = nn := ⟨_, rfl⟩
      rw [hnn] at s0
      have HS1' := Lib.hid (show Sps W.heap.size V2 (.slice sa nn sc) (bx.getD f []) by rw [← hnn]; exact HS1.out)
      have hb4 : bx.length = 4 := HX.out.1
      clear hxk HTS hL s1 s2 gx htg HS1 hsl hb3
      go_wp2_with fail
      refine wp_region_turn2 (W := V2) 16 [BIs (.pointer (some ⟨wr.heap.size, 0, none⟩)), BIs (.int .i64 (f : Int)), BIs (.pointer (some ⟨wr.heap.size, 0, none⟩)), BIs (.int .i64 (f : Int)), BIs (.pointer (some ⟨w1.heap.size, f, none⟩)), BIs (.slice sa nn sc), BIs (.agg #[.int .i64 (f : Int), .int .i64 tlo, .int .i64 thi, .bool q]), (fun w v => OwnSp V2.heap.size w v (tspans ⟨f, tlo, thi, q⟩)), BIs (.pointer (some ⟨wr.heap.size, 0, none⟩)), BIs (.int .i64 (f : Int)), (BIs (.int .i64 (top f))), (fun w v => ∃ z q, v = .tuple #[z, .bool q] ∧ OwnSp V2.heap.size w z L), (fun w v => ∃ z q, v = .tuple #[z, .bool q] ∧ OwnSp V2.heap.size w z L), (fun w v => OwnSp V2.heap.size w v L), BV (fun v => ∃ q, v = .bool q), BIs (.pointer (some ⟨w1.heap.size, f, none⟩))] (bof [BIs (.pointer (some ⟨wr.heap.size, 0, none⟩)), BIs (.int .i64 (f : Int)), BIs (.pointer (some ⟨wr.heap.size, 0, none⟩)), BIs (.int .i64 (f : Int)), BIs (.pointer (some ⟨w1.heap.size, f, none⟩)), BIs (.slice sa nn sc), BIs (.agg #[.int .i64 (f : Int), .int .i64 tlo, .int .i64 thi, .bool q]), (fun _ _ => True), BIs (.pointer (some ⟨wr.heap.size, 0, none⟩)), BIs (.int .i64 (f : Int)), (fun _ _ => True), (fun _ _ => True), (fun _ v => ∃ z q, v = .tuple #[z, .bool q] ∧ True), (fun _ _ => True), (BV (fun v => ∃ q, v = .bool q)), BIs (.pointer (some ⟨w1.heap.size, f, none⟩)), (fun w9 _ => ∃ z wx, Below V2.heap.size V2 wx ∧ OwnSp V2.heap.size wx z L ∧ w9 = wx.setCell ⟨w1.heap.size, f, none⟩ z)]) (by kernel_rfl) (by decide) (fun u => by simp only [frU, Act.put, List.setIfInBounds_toArray, List.set_cons_succ, List.set_cons_zero, Nat.zero_add, Nat.reduceAdd]; exact rfl) (by kernel_rfl) ⟨bst_is _, bst_is _, bst_is _, bst_is _, bst_is _, bst_is _, bst_is _, (fun _ _ _ hb h => OwnSl.kept h hb), bst_is _, bst_is _, (bst_is _), (fun _ _ _ hb ⟨z, q, h1, h2⟩ => ⟨z, q, h1, OwnSl.kept h2 hb⟩), (fun _ _ _ hb ⟨z, q, h1, h2⟩ => ⟨z, q, h1, OwnSl.kept h2 hb⟩), (fun _ _ _ hb h => OwnSl.kept h hb), bst_v _, bst_is _, trivial⟩ ?_ ?_; (exact ⟨stT rfl (by decide) (by kernel_rfl) (fun u w3 hC hd hI Q K hK => by (go_step; exact hK _ _ rfl (Below.refl _ _) rfl)), stT rfl (by decide) (by kernel_rfl) (fun u w3 hC hd hI Q K hK => by (have hu := bis (w := w3) (hd 0 rfl); rw [hu] at hK ⊢; clear hu; have z0 := (hC.cell (p := ⟨wr.heap.size, 0, none⟩) hz2).trans t0; go_step; exact hK _ _ rfl (Below.refl _ _) rfl)), stT rfl (by decide) (by kernel_rfl) (fun u w3 hC hd hI Q K hK => by (go_step; exact hK _ _ rfl (Below.refl _ _) rfl)), stT rfl (by decide) (by kernel_rfl) (fun u w3 hC hd hI Q K hK => by (have hu := bis (w := w3) (hd 2 rfl); rw [hu] at hK ⊢; clear hu; have z0 := (hC.cell (p := ⟨wr.heap.size, 0, none⟩) hz2).trans t0; go_step; exact hK _ _ rfl (Below.refl _ _) rfl)), stT rfl (by decide) (by kernel_rfl) (fun u w3 hC hd hI Q K hK => by (have hu := bis (w := w3) (hd 3 rfl); rw [hu] at hK ⊢; clear hu; go_step; exact hK _ _ rfl (Below.refl _ _) rfl)), stT rfl (by decide) (by kernel_rfl) (fun u w3 hC hd hI Q K hK => by (have hu := bis (w := w3) (hd 4 rfl); rw [hu] at hK ⊢; clear hu; have z0 := (hC.cell (p := ⟨w1.heap.size, f, none⟩) hS2).trans s0; go_step; exact hK _ _ rfl (Below.refl _ _) rfl)), stT rfl (by decide) (by kernel_rfl) (fun u w3 hC hd hI Q K hK => by (have z0 := (hC.cell (p := ⟨wr.heap.size, 0, none⟩) hz2).trans t0; have z1 := (hC.cell (p := ⟨wr.heap.size, 1, none⟩) hz2).trans t1; have z2 := (hC.cell (p := ⟨wr.heap.size, 2, none⟩) hz2).trans t2; have z3 := (hC.cell (p := ⟨wr.heap.size, 3, none⟩) hz2).trans t3; go_step; exact hK _ _ rfl (Below.refl _ _) rfl)), stT rfl (by decide) (by kernel_rfl) (fun u w3 hC hd hI Q K hK => by (have hu := bis (w := w3) (hd 6 rfl); rw [hu] at hK ⊢; clear hu; go_step; refine (spansI_any f tlo thi q _ (HBT.out.below hC) hf4 hvt).mono ?_; rintro e w4 ⟨z4, rfl, ho4, hb4'⟩; exact hK _ _ rfl hb4' (OwnSl.mono ho4 hC.size))), stT rfl (by decide) (by kernel_rfl) (fun u w3 hC hd hI Q K hK => by (go_step; exact hK _ _ rfl (Below.refl _ _) rfl)), stT rfl (by decide) (by kernel_rfl) (fun u w3 hC hd hI Q K hK => by (have hu := bis (w := w3) (hd 8 rfl); rw [hu] at hK ⊢; clear hu; have z0 := (hC.cell (p := ⟨wr.heap.size, 0, none⟩) hz2).trans t0; go_step; exact hK _ _ rfl (Below.refl _ _) rfl)), stT rfl (by decide) (by kernel_rfl) (fun u w3 hC hd hI Q K hK => by (have h7 := hd 7 rfl; generalize u 7 = v7 at *; have hu := bis (w := w3) (hd 9 rfl); rw [hu] at hK ⊢; clear hu; go_step; refine (FieldTop_any f hf4 _ (HBT.out.below hC)).mono ?_; rintro e w4 ⟨rfl, rfl⟩; exact hK _ _ rfl (Below.refl _ _) rfl)), stT rfl (by decide) (by kernel_rfl) (fun u w3 hC hd hI Q K hK => by (have hu := bis (w := w3) (hd 5 rfl); rw [hu] at hK ⊢; clear hu; have h7 := hd 7 rfl; generalize u 7 = v7 at *; have hu := bis (w := w3) (hd 10 rfl); rw [hu] at hK ⊢; clear hu; go_step; refine (meetSpans_r HL.out rfl (HS1'.out.below hC) (OwnSp.sps h7) HGX.out HTG.out.1 z1 z2).mono ?_; rintro e w4 ⟨z4, rfl, ho4, hb4'⟩; exact hK _ _ rfl hb4' ⟨z4, _, rfl, by rw [HSL.out] at ho4; exact OwnSl.mono ho4 hC.size⟩)), stT rfl (by decide) (by kernel_rfl) (fun u w3 hC hd hI Q K hK => by (have h7 := hd 11 rfl; generalize u 11 = v7 at *; go_step; exact hK _ _ rfl (Below.refl _ _) h7)), stT rfl (by decide) (by kernel_rfl) (fun u w3 hC hd hI Q K hK => by (obtain ⟨z, q2, hu, hz⟩ := hd 12 rfl; rw [hu] at hK ⊢; clear hu; go_step; exact hK _ _ rfl (Below.refl _ _) hz)), stTf rfl (by decide) (fun u w3 hC hd Q K hK => by (obtain ⟨z, q2, hu, hz⟩ := hd 12 rfl; rw [hu] at hK ⊢; clear hu; go_step; exact hK _ _ rfl (Below.refl _ _) ⟨_, rfl⟩)) (fun u w3 hd Q K hK => by (dsimp only at hK ⊢; obtain ⟨z, q2, hu, hz⟩ := hd 12 rfl; rw [hu] at hK ⊢; clear hu; go_step; exact hK _ rfl ⟨_, rfl⟩)), stT rfl (by decide) (by kernel_rfl) (fun u w3 hC hd hI Q K hK => by (have hu := bis (w := w3) (hd 1 rfl); rw [hu] at hK ⊢; clear hu; go_step; exact hK _ _ rfl (Below.refl _ _) rfl)), stTt rfl (by decide) (fun u w3 hC hd Q K hK => by (dsimp only at hK ⊢; have hu := bis (w := w3) (hd 15 rfl); rw [hu] at hK ⊢; clear hu; have h7 := hd 13 rfl; generalize u 13 = v7 at *; obtain ⟨ya, yc, rfl, -, -⟩ := (OwnSp.sps h7).form; have z0 := (hC.cell (p := ⟨w1.heap.size, f, none⟩) hS2).trans s0; have z1 := (hC.frozen (p := ⟨w1.heap.size, f, none⟩) hS2).trans hfz; go_step; refine hK _ _ rfl (fun j hj h => ?_) ?_; (match j, hj, h with | 0, _, h => exact h | 1, _, h => exact h | 2, _, h => exact h | 3, _, h => exact h | 4, _, h => exact h | 5, _, h => exact h | 6, _, h => exact h | 7, _, _ => exact trivial | 8, _, h => exact h | 9, _, h => exact h | 10, _, _ => exact trivial | 11, _, _ => exact trivial | 12, _, h => (obtain ⟨z, q, h1, h2⟩ := h; exact ⟨z, q, h1, trivial⟩) | 13, _, _ => exact trivial | 14, _, h => exact h | 15, _, h => exact h | j + 16, hj, _ => exact absurd hj (by omega)); exact ⟨_, w3, hC, h7, rfl⟩)), trivial⟩); intro u w9 hF; rw [bis (w := w9) (hF 0 (by decide))]; rw [bis (w := w9) (hF 1 (by decide))]; rw [bis (w := w9) (hF 2 (by decide))]; rw [bis (w := w9) (hF 3 (by decide))]; rw [bis (w := w9) (hF 4 (by decide))]; rw [bis (w := w9) (hF 5 (by decide))]; rw [bis (w := w9) (hF 6 (by decide))]; rw [bis (w := w9) (hF 8 (by decide))]; rw [bis (w := w9) (hF 9 (by decide))]; rw [bis (w := w9) (hF 15 (by decide))]; have hD := hF 16 (by decide); generalize u 16 = v8 at *; generalize u 7 = vx7 at *; generalize u 10 = vx10 at *; generalize u 11 = vx11 at *; generalize u 12 = vx12 at *; generalize u 13 = vx13 at *; generalize u 14 = vx14 at *; clear hF
      obtain ⟨z, wx, hbx, hzo, rfl⟩ := hD
      have HTS9 := Lib.hid (show TS W.heap.size w1.heap.size (wx.setCell ⟨w1.heap.size, f, none⟩ z) (tbox1 bx ⟨f, tlo, thi, q⟩) by
        rw [← HEL.out]
        exact (HTSV.out.below hbx).step hf4 hb4 ((OwnSp.sps hzo).mono (by omega)) (SpV.own2 hzo (fun k hk => .inl (by omega))))
      have hw9 : Below W.heap.size W (wx.setCell ⟨w1.heap.size, f, none⟩ z) := (hWV2.trans (hbx.mono hWV2.size)).setCell hz1 _
      have HX9 := Lib.hid (show BGood (1 + (k + 1)) (tbox1 bx ⟨f, tlo, thi, q⟩) from HX.out.step HOK.out)
      clear hzo
      go_wp2
      go_roundw
      case rel => exact ⟨k + 1, _, by omega, HE2, by go_num, hw9, HTS9, HX9⟩
      case measure => simp [intOf]; omega
    · have hkn : ts.take k = ts := List.take_of_length_le (by rw [HN.out]; omega)
      have HEB := Lib.hid (show bx = tbox ts by rw [HE.out, hkn]; rfl)
      have i1 : ¬ (k : Int) < (n : Int) := by omega
      obtain ⟨v0, g0, h0, k0⟩ := HTS.out.1 0 (by omega)
      obtain ⟨v1, g1, h1, k1⟩ := HTS.out.1 1 (by omega)
      obtain ⟨v2, g2, h2, k2⟩ := HTS.out.1 2 (by omega)
      obtain ⟨v3, g3, h3, k3⟩ := HTS.out.1 3 (by omega)
      obtain ⟨b0, d0, rfl, -, -⟩ := h0.form
      obtain ⟨b1, d1, rfl, -, -⟩ := h1.form
      obtain ⟨b2, d2, rfl, -, -⟩ := h2.form
      obtain ⟨b3, d3, rfl, -, -⟩ := h3.form
      obtain ⟨m0, hm0⟩ : ∃ m, (bx.getD 0 []).length = m := ⟨_, rfl⟩
      obtain ⟨m1, hm1⟩ : ∃ m, (bx.getD 1 []).length = m := ⟨_, rfl⟩
      obtain ⟨m2, hm2⟩ : ∃ m, (bx.getD 2 []).length = m := ⟨_, rfl⟩
      obtain ⟨m3, hm3⟩ : ∃ m, (bx.getD 3 []).length = m := ⟨_, rfl⟩
      rw [hm0] at g0 h0
      rw [hm1] at g1 h1
      rw [hm2] at g2 h2
      rw [hm3] at g3 h3
      have hzWW : w.heap.size < W.heap.size := by omega
      have r0 := (hbr.cell (p := ⟨w.heap.size, 0, none⟩) hzWW).trans (HR.out.1 0 (by omega))
      have r1 := (hbr.cell (p := ⟨w.heap.size, 1, none⟩) hzWW).trans (HR.out.1 1 (by omega))
      have r2 := (hbr.cell (p := ⟨w.heap.size, 2, none⟩) hzWW).trans (HR.out.1 2 (by omega))
      have r3 := (hbr.cell (p := ⟨w.heap.size, 3, none⟩) hzWW).trans (HR.out.1 3 (by omega))
      have f0 := (hbr.frozen (p := ⟨w.heap.size, 0, none⟩) hzWW).trans (HR.out.2 0)
      have f1 := (hbr.frozen (p := ⟨w.heap.size, 1, none⟩) hzWW).trans (HR.out.2 1)
      have f2 := (hbr.frozen (p := ⟨w.heap.size, 2, none⟩) hzWW).trans (HR.out.2 2)
      have f3 := (hbr.frozen (p := ⟨w.heap.size, 3, none⟩) hzWW).trans (HR.out.2 3)
      have hwW : Below w.heap.size w ((((wr.setCell ⟨w.heap.size, 0, none⟩ (.slice b0 m0 d0)).setCell ⟨w.heap.size, 1, none⟩ (.slice b1 m1 d1)).setCell ⟨w.heap.size, 2, none⟩ (.slice b2 m2 d2)).setCell ⟨w.heap.size, 3, none⟩ (.slice b3 m3 d3)) := (((((hal.trans (hbr.mono (by omega))).setCell (Nat.le_refl _) _).setCell (Nat.le_refl _) _).setCell (Nat.le_refl _) _).setCell (Nat.le_refl _) _)
      have hkp : Kp W.heap.size wr ((((wr.setCell ⟨w.heap.size, 0, none⟩ (.slice b0 m0 d0)).setCell ⟨w.heap.size, 1, none⟩ (.slice b1 m1 d1)).setCell ⟨w.heap.size, 2, none⟩ (.slice b2 m2 d2)).setCell ⟨w.heap.size, 3, none⟩ (.slice b3 m3 d3)) := ⟨by simp, fun q q1 _ => by
        rw [Below.heap_setCell _ _ _ _ (by simp only; omega), Below.heap_setCell _ _ _ _ (by simp only; omega), Below.heap_setCell _ _ _ _ (by simp only; omega), Below.heap_setCell _ _ _ _ (by simp only; omega)]⟩
      have H0 := Lib.hid ((h0.keep hkp).mono (show w.heap.size ≤ W.heap.size by omega))
      have H1 := Lib.hid ((h1.keep hkp).mono (show w.heap.size ≤ W.heap.size by omega))
      have H2 := Lib.hid ((h2.keep hkp).mono (show w.heap.size ≤ W.heap.size by omega))
      have H3 := Lib.hid ((h3.keep hkp).mono (show w.heap.size ≤ W.heap.size by omega))
      have hb4 : bx.length = 4 := HX.out.1
      clear h0 h1 h2 h3 k0 k1 k2 k3 hkp
      go_wp2
      refine bodyPost_ret (v := .agg #[.slice b0 m0 d0, .slice b1 m1 d1, .slice b2 m2 d2, .slice b3 m3 d3]) ?_ rfl ⟨_, _, _, _, _, _, _, _, _, _, _, _, rfl, ?_, hwW⟩
      · simp [results, Tryd.results51, go_sem, r0, r1, r2, r3]
      · rw [← HEB.out]
        refine ⟨by simpa using hb4.symm, fun j x y hx hy => ?_⟩
        have hy2 := getD_get (d := []) hy
        match j, hx, hy2 with
        | 0, hx, hy2 => cases hx; rw [← hy2]; exact H0.out
        | 1, hx, hy2 => cases hx; rw [← hy2]; exact H1.out
        | 2, hx, hy2 => cases hx; rw [← hy2]; exact H2.out
        | 3, hx, hy2 => cases hx; rw [← hy2]; exact H3.out
        | j + 4, hx, hy2 => simp at hx
end Go.Proofs.YtfcbbahlhjdefaaDoor
