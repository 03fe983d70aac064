/- Drawn rulesets: the walk. -/
import Derived.Test.YtfcbbahlhjdefaaDoorRdRc
namespace Go.Proofs.YtfcbbahlhjdefaaDoor
open Go.RowKit
def FAp (R : Nat) (bs : List Int) (w : World) (B : Nat) (cv : Value) (p : Nat) (cs : List (List Ru)) (acc : Bool) (w9 : World) (v : Value) : Prop := w9.cell? ⟨B, 0, none⟩ = some cv ∧ w9.frozen? ⟨B, 0, none⟩ = false ∧ (∃ a n c, v = .slice a n c) ∧ ∃ rs q, q ≤ p ∧ RcS R bs w B (w9.setCell ⟨B, 0, none⟩ v) q v (cs ++ [rs]) acc
def FDp (R : Nat) (bs : List Int) (w : World) (B : Nat) (p : Nat) (cs : List (List Ru)) (acc : Bool) (w9 : World) : Prop := ∃ v rs q, q ≤ p ∧ RcS R bs w B w9 q v (cs ++ [rs]) acc
set_option maxHeartbeats 1000000 in
set_option maxRecDepth 100000 in
theorem drawRc_any (R : Nat) (bs : List Int) (p : Nat) (n : Int) (h1 : 1 ≤ n ∧ n ≤ 100) (w : World) (h : RdAt R bs w p) (hp : p ≤ 600000) :
    Calls Tryd.prog 25 #[.pointer (some ⟨R, 0, none⟩), .int .i64 n] w (DrawnRc R bs p w) := by
  have hR := h.lt
  obtain ⟨W, hW⟩ : ∃ W, w.alloc (.cells #[.slice none 0 0, .bool false] 25) = W := ⟨_, rfl⟩
  have hal : Below w.heap.size w W := by rw [← hW]; exact (Below.refl _ _).alloc (Nat.le_refl _) _
  have hr0 := h.below hal
  go_enter Tryd.func25, Tryd.ntmps25
  go_wp2_with fail
  refine (pick_any R bs p _ W hr0 (by omega) (by omega)).mono ?_
  rintro e w1 ⟨x1, rfl, a1, b1, -, hr1, hm1⟩
  have hx1 := b1 (by omega)
  have hzW : w.heap.size < W.heap.size := by rw [← hW]; simp
  have hz1 := hm1.size
  have hq1 : Mv R w.heap.size w w1 := (Mv.of_below hal).trans (hm1.mono hal.size)
  have a0 : w1.cell? ⟨w.heap.size, 0, none⟩ = some (.slice none 0 0) := (mvC hm1 w.heap.size hzW (by omega) 0).trans (by rw [← hW]; simp)
  have a1' : w1.cell? ⟨w.heap.size, 1, none⟩ = some (.bool false) := (mvC hm1 w.heap.size hzW (by omega) 1).trans (by rw [← hW]; simp)
  have af : ∀ j, w1.frozen? ⟨w.heap.size, j, none⟩ = false := fun j => (mvF hm1 w.heap.size hzW (by omega) j).trans (by rw [← hW]; exact frz_new w _ _ j)
  obtain ⟨acc, hacc⟩ : ∃ acc, (x1 == 0) = acc := ⟨_, rfl⟩
  obtain ⟨W1, hW1⟩ : ∃ W1, w1.alloc (.cells #[.slice none 0 0, .bool (x1 == 0)] 25) = W1 := ⟨_, rfl⟩
  have hal1 : Below w1.heap.size w1 W1 := by rw [← hW1]; exact (Below.refl _ _).alloc (Nat.le_refl _) _
  have hzW1 : w1.heap.size < W1.heap.size := by rw [← hW1]; simp
  have S1 : RcS R bs w w1.heap.size W1 (p + 1) (.slice none 0 0) [] acc := ⟨hr1.below hal1, hR, by omega, hzW1, by rw [← hW1]; simp, by rw [← hW1, ← hacc]; simp, fun j => by rw [← hW1]; exact frz_new w1 _ _ j,
    by rw [hal1.cell (p := ⟨w.heap.size, 0, none⟩) (by simp only; omega), a0]; rfl, by rw [hal1.cell (p := ⟨w.heap.size, 1, none⟩) (by simp only; omega), a1']; rfl, fun j => (hal1.frozen (p := ⟨w.heap.size, j, none⟩) (by simp only; omega)).trans (af j),
    ⟨[], OwnSl.nil _ _ _ _ _, by simp [Value.ownBlock], trivial⟩, fun l hl => absurd hl (by simp), hq1.trans ((Mv.of_below hal1).mono (by omega))⟩
  have HS1 := Lib.hid S1
  have hrd1 := S1.rd
  rw [hacc] at hW1
  clear S1 hW hal hr0 h hm1 hal1 a0 a1' af hq1 hr1 b1
  go_wp2_with fail
  refine (pick_any R bs _ _ _ hrd1 (by omega) (by omega)).mono ?_
  rintro e w2 ⟨x2, rfl, a2, b2, -, hr2, hm2⟩
  have hx2 := b2 (by omega)
  have HS2 := Lib.hid (HS1.out.mv' hr2 hm2)
  clear hW1 hm2 HS1 b2 hrd1
  obtain ⟨c, hc⟩ : ∃ c, 1 + x2 = c := ⟨_, rfl⟩
  go_wp2_with fail
  go_loopw [7] (fun i wr => ∃ (k : Nat) (cv : Value) (cs : List (List Ru)) (q : Nat), i = .int .i64 k ∧ k ≤ c ∧ Hid (RcS R bs w w1.heap.size wr q cv cs acc) ∧ Hid (cs.length = k) ∧ q ≤ p + 2 + 4700 * k) (fun i _ => (c - intOf i).toNat)
  case atStart => exact ⟨0, _, _, _, rfl, by omega, HS2, Lib.hid rfl, by omega⟩
  case round =>
    have hc1 : 1 ≤ c ∧ c ≤ 3 := by omega
    clear HS2 hr2 hc hx2 a2
    obtain ⟨k, cv, cs, q, rfl, hk, HS, HL, hq⟩ := hrel
    by_cases hkc : (k : Int) < c
    · have hrd0 := HS.out.rd
      have hlB := HS.out.lt
      have hRB : w1.heap.size ≠ R := by omega
      obtain ⟨ca, cc, hcv⟩ := HS.out.form
      rw [HL.out] at hcv
      subst hcv
      have c0 := HS.out.c0
      have hkk : (0 : Int) ≤ (k : Int) + 1 ∧ (k : Int) + 1 ≤ 10 := by omega
      have hcc : 0 ≤ c ∧ c ≤ 10 := by omega
      have hq6 : q ≤ 680000 := by omega
      have hRr : R < wr.heap.size := by omega
      have hcl : cs.length ≤ 1000 := by rw [HL.out]; omega
      go_wp2_with fail
      refine wp_region_m (W := wr) 8 11 6 [BIs (.pointer (some ⟨w1.heap.size, 0, none⟩)), BIs (.slice ca k cc), BIs (.pointer (some ⟨R, 0, none⟩)), BIs (.int .i64 (k : Int)), BIs (.int .i64 ((k : Int) + 1)), BIs (.int .i64 c), (FRs wr.heap.size R bs (q + 4700)), (FRl wr.heap.size)] (bof [BIs (.pointer (some ⟨w1.heap.size, 0, none⟩)), BIs (.slice ca k cc), BIs (.pointer (some ⟨R, 0, none⟩)), BIs (.int .i64 (k : Int)), BIs (.int .i64 ((k : Int) + 1)), BIs (.int .i64 c), (fun _ _ => True), (fun _ _ => True), (FAp R bs w w1.heap.size (.slice ca k cc) (q + 4700) cs acc), BIs (.pointer (some ⟨w1.heap.size, 0, none⟩))]) (FDp R bs w w1.heap.size (q + 4700) cs acc) (fun _ => True) (by kernel_rfl) (by decide) rfl (fun u => by simp only [frU, Act.put, List.setIfInBounds_toArray, List.set_cons_succ, List.set_cons_zero, Nat.zero_add, Nat.reduceAdd]; exact rfl) (by kernel_rfl) (by kernel_rfl) ⟨bst_is _, bst_is _, bst_is _, bst_is _, bst_is _, bst_is _, (frs_b), (frl_b), trivial⟩ (fun iz wz wy vz hi hm hz => by (match iz, hi, hz with | 0, _, hz => exact hz | 1, _, hz => exact hz | 2, _, hz => exact hz | 3, _, hz => exact hz | 4, _, hz => exact hz | 5, _, hz => exact hz | 6, hi, _ => exact absurd rfl hi | 7, _, hz => exact (frl_m hRr : MStb R (FRl wr.heap.size)) wz wy vz hm hz | j + 8, _, hz => exact hz)) (by decide) hrd0 ?_ ?_; (exact ⟨stM rfl (by decide) (by decide) (by kernel_rfl) (fun u w3 hC hd Q K hK => by (go_step; exact hK _ _ rfl (Below.refl _ _) rfl)), stM rfl (by decide) (by decide) (by kernel_rfl) (fun u w3 hC hd Q K hK => by (have hu := bis (w := w3) (hd 0 rfl); rw [hu] at hK ⊢; clear hu; have z0 := (mvC hC w1.heap.size hlB hRB 0).trans c0; go_step; exact hK _ _ rfl (Below.refl _ _) rfl)), stM rfl (by decide) (by decide) (by kernel_rfl) (fun u w3 hC hd Q K hK => by (go_step; exact hK _ _ rfl (Below.refl _ _) rfl)), stM rfl (by decide) (by decide) (by kernel_rfl) (fun u w3 hC hd Q K hK => by (go_step; exact hK _ _ rfl (Below.refl _ _) rfl)), stM rfl (by decide) (by decide) (by kernel_rfl) (fun u w3 hC hd Q K hK => by (have hu := bis (w := w3) (hd 3 rfl); rw [hu] at hK ⊢; clear hu; go_step; exact hK _ _ rfl (Below.refl _ _) rfl)), stM rfl (by decide) (by decide) (by kernel_rfl) (fun u w3 hC hd Q K hK => by (go_step; exact hK _ _ rfl (Below.refl _ _) rfl)), stMm rfl (by decide) (by kernel_rfl) (fun u w3 hC hrd hd Q K hK => by (have hu := bis (w := w3) (hd 2 rfl); rw [hu] at hK ⊢; clear hu; have hu := bis (w := w3) (hd 4 rfl); rw [hu] at hK ⊢; clear hu; have hu := bis (w := w3) (hd 5 rfl); rw [hu] at hK ⊢; clear hu; go_step; refine (drawRus_any R bs q _ _ 0 hkk hcc (.inl rfl) _ hrd hq6).mono ?_; rintro e w4 ⟨v4, rs, q4, rfl, g1, g2, g3, g4, g5, g6⟩; exact hK _ _ rfl g6 ⟨rs, (g1.mono hC.size).less (fun k hk => Nat.lt_of_lt_of_le hk hC.size), g2.2.1 rfl, g3, q4, g4, g5⟩)), stM rfl (by decide) (by decide) (by kernel_rfl) (fun u w3 hC hd Q K hK => by (have h6 := hd 6 rfl; generalize u 6 = v6 at *; obtain ⟨rs, g1, g2, g3, -⟩ := h6; obtain ⟨ga, gc, g0⟩ := g1.form; subst g0; go_step; exact hK _ _ rfl ((Below.refl _ _).alloc (Nat.le_refl _) _) ⟨_, _, rs, rfl, by simp, hC.size, by simp, g1.below ((Below.refl _ _).alloc (Nat.le_refl _) _), g2, g3⟩)), stMt rfl (by decide) (fun u w3 hC hd Q K hK => by (dsimp only at hK ⊢; have hu := bis (w := w3) (hd 1 rfl); rw [hu] at hK ⊢; clear hu; have h6 := hd 6 rfl; generalize u 6 = v6 at *; obtain ⟨g7, u7, rs7, hu, z7, y7, l7, g1, g2, g3⟩ := hd 7 rfl; rw [hu] at hK ⊢; clear hu; obtain ⟨rs6, -, -, -, q6, hr6, hq6⟩ := h6; obtain ⟨v5, w5, hrun, hc5, hf5, hfm5, S5⟩ := HS.out.push' hr6 hC 23 (slOne z7 l7) g1 ⟨g2, g3⟩ hcl; refine wp_append_run (.tmp 21) (.tmp 27) 23 rfl rfl rfl hrun ?_; refine hK _ _ rfl (fun j hj h => ?_) ?_ ?_; (match j, hj, h with | 0, _, h => exact h | 1, _, h => exact h | 2, _, h => exact h | 3, _, h => exact h | 4, _, h => exact h | 5, _, h => exact h | 6, _, _ => exact trivial | 7, _, _ => exact trivial | j + 8, hj, _ => exact absurd hj (by omega)); exact ⟨hc5, hf5, hfm5, rs7, q6, hq6, S5⟩; exact trivial)), stMb rfl (by decide) (by decide) (by kernel_rfl) (fun u w3 hd Q K hK => by (dsimp only at hK ⊢; go_step; exact hK _ rfl rfl)), stMl rfl (by decide) rfl (fun u w3 hd Q K hK => by (dsimp only at hK ⊢; have hu := bis (w := w3) (hd 9 rfl); rw [hu] at hK ⊢; clear hu; have h5 := hd 8 rfl; generalize u 8 = v5 at *; obtain ⟨z0, z1, ⟨qa, qn, qc, hqq⟩, rs, q', hq', S9⟩ := h5; subst hqq; go_step; exact hK _ _ rfl ⟨_, rs, q', hq', S9⟩)), trivial⟩); intro u w9 hD
      obtain ⟨v9, rs, q9, hq9, S9⟩ := hD
      have HS9 := Lib.hid S9
      have HL9 := Lib.hid (show (cs ++ [rs]).length = k + 1 by rw [List.length_append, HL.out]; rfl)
      clear S9
      go_wp2
      go_roundw
      case rel => exact ⟨k + 1, v9, _, q9, by go_num, by omega, HS9, HL9, by omega⟩
      case measure => simp [intOf]; omega
    · obtain rfl : c = (k : Int) := by omega
      have hrd0 := HS.out.rd
      go_wp2_with fail
      refine (odd_any R bs q n _ hrd0 (by omega) (by omega) (by omega)).mono ?_
      rintro e w3 ⟨bo, q3, rfl, hr3, hq3, hm3⟩
      have HS3 := Lib.hid (HS.out.mv' hr3 hm3)
      clear hm3
      cases bo
      · obtain ⟨ca, cc, hcv⟩ := HS3.out.form
        rw [HL.out] at hcv
        subst hcv
        obtain ⟨⟨y0, a0⟩, ⟨y1, a1⟩, z0, z1, HD⟩ := HS3.out.toX.out (p := p) (by rw [HL.out]; omega) (by omega)
        have f0 := HS3.out.toX.af 0
        have f1 := HS3.out.toX.af 1
        have c0 := HS3.out.toX.c0
        have c1 := HS3.out.toX.c1
        go_wp2_with fail
        refine bodyPost_ret (v := .agg #[.slice ca k cc, .bool acc]) (by simp [results, Tryd.results25, go_sem, z0, z1]; try rfl) rfl ?_
        exact HD.out
      · go_wp2_with fail
        refine (pick_any R bs _ _ _ hr3 (by omega) (by omega)).mono ?_
        rintro e w4 ⟨x4, rfl, a4, b4, -, hr4, hm4⟩
        have hx4 := b4 (by omega)
        have HS4 := Lib.hid (HS3.out.mv' hr4 hm4)
        clear hm4 HS3 hr3 b4
        rcases (by omega : x4 = 0 ∨ x4 = 1 ∨ x4 = 2 ∨ x4 = 3) with rfl | rfl | rfl | rfl
        · obtain ⟨W5, hW5⟩ : ∃ W5, w4.alloc (.cells #[] 31) = W5 := ⟨_, rfl⟩
          have hal5 : Below w4.heap.size w4 W5 := by rw [← hW5]; exact (Below.refl _ _).alloc (Nat.le_refl _) _
          have X5 := HS4.out.toX.below hal5
          have b0 := X5.c0
          have b1 := X5.fz 0
          obtain ⟨W6, hW6⟩ : ∃ W6, W5.setCell ⟨w1.heap.size, 0, none⟩ (.slice (some ⟨w4.heap.size, 0, none⟩) 0 0) = W6 := ⟨_, rfl⟩
          have X6 := HS4.out.toX.clear
          rw [hW5, hW6] at X6
          obtain ⟨⟨y0, a0⟩, ⟨y1, a1⟩, z0, z1, HD⟩ := X6.out (p := p) (by simp) (by omega)
          have f0 := X6.af 0
          have f1 := X6.af 1
          have k0 := X6.c0
          have k1 := X6.c1
          have HX := Lib.hid X5
          clear X5 X6 hal5
          go_wp2_with fail
          refine bodyPost_ret (v := .agg #[.slice (some ⟨w4.heap.size, 0, none⟩) 0 0, .bool acc]) (by simp [results, Tryd.results25, go_sem, z0, z1]; try rfl) rfl ?_
          exact HD.out
        · have hcl : 0 < cs.length := by rw [HL.out]; omega
          obtain ⟨g, gc, u, hcv, hgx, hgl, hu0, ua, un, uc, huf⟩ := HS4.out.head hcl
          rw [HL.out] at hcv
          subst huf
          subst hcv
          have HCL := Lib.hid hcl
          have c0 := HS4.out.c0
          have hlB := HS4.out.lt
          have hRB : w1.heap.size ≠ R := by omega
          have hgR : g ≠ R := by omega
          have hRr : R < w4.heap.size := by omega
          have hk1 : 0 < k := by omega
          have hkk : (1 : Int) ≤ (k : Int) ∧ (k : Int) ≤ 3 := by omega
          have hq6 : q3 + 1 ≤ 680000 := by omega
          clear hcl
          go_wp2_with fail
          refine wp_region_m (W := w4) 14 17 9 [BIs (.pointer (some ⟨w1.heap.size, 0, none⟩)), BIs (.slice (some ⟨g, 0, none⟩) k gc), BIs (.pointer (some ⟨w1.heap.size, 0, none⟩)), BIs (.slice (some ⟨g, 0, none⟩) k gc), BIs (.pointer (some ⟨g, 0, none⟩)), BIs (.slice ua un uc), BIs (.int .i64 (k : Int)), (FLt R 2 0 3), BIs (.pointer (some ⟨R, 0, none⟩)), (FPx R bs (q3 + 1 + 1)), (FAd R 0 3), (BV (fun v => ∃ x : Int, v = .int .i64 x)), (BV (fun v => ∃ x : Int, v = .agg #[.slice none 0 0, .int .i64 3, .int .i64 x])), (FLr w4.heap.size)] (bof [BIs (.pointer (some ⟨w1.heap.size, 0, none⟩)), BIs (.slice (some ⟨g, 0, none⟩) k gc), BIs (.pointer (some ⟨w1.heap.size, 0, none⟩)), BIs (.slice (some ⟨g, 0, none⟩) k gc), BIs (.pointer (some ⟨g, 0, none⟩)), BIs (.slice ua un uc), BIs (.int .i64 (k : Int)), (fun _ _ => True), BIs (.pointer (some ⟨R, 0, none⟩)), (fun _ _ => True), (fun _ _ => True), (fun _ _ => True), (fun _ _ => True), (fun _ _ => True), (FAq R bs w w1.heap.size g (q3 + 1 + 1) (.slice (some ⟨g, 0, none⟩) k gc) acc k), BIs (.pointer (some ⟨g, 0, none⟩))]) (FDx R bs w w1.heap.size (q3 + 1 + 1) (.slice (some ⟨g, 0, none⟩) k gc) acc k) (fun w9 => w9.cell? ⟨w1.heap.size, 0, none⟩ = some (.slice (some ⟨g, 0, none⟩) k gc)) (by kernel_rfl) (by decide) rfl (fun u => by simp only [frU, Act.put, List.setIfInBounds_toArray, List.set_cons_succ, List.set_cons_zero, Nat.zero_add, Nat.reduceAdd]; exact rfl) (by kernel_rfl) (by kernel_rfl) ⟨bst_is _, bst_is _, bst_is _, bst_is _, bst_is _, bst_is _, bst_is _, (bst_of mst_lt), bst_is _, (fpx_b), (bst_of mst_ad), (bst_v _), (bst_v _), (bst_of (flr_m hRr)), trivial⟩ (fun iz wz wy vz hi hm hz => by (match iz, hi, hz with | 0, _, hz => exact hz | 1, _, hz => exact hz | 2, _, hz => exact hz | 3, _, hz => exact hz | 4, _, hz => exact hz | 5, _, hz => exact hz | 6, _, hz => exact hz | 7, _, hz => exact (mst_lt : MStb R (FLt R 2 0 3)) wz wy vz hm hz | 8, _, hz => exact hz | 9, hi, _ => exact absurd rfl hi | 10, _, hz => exact (mst_ad : MStb R (FAd R 0 3)) wz wy vz hm hz | 11, _, hz => exact (mst_v _ : MStb R (BV (fun v => ∃ x : Int, v = .int .i64 x))) wz wy vz hm hz | 12, _, hz => exact (mst_v _ : MStb R (BV (fun v => ∃ x : Int, v = .agg #[.slice none 0 0, .int .i64 3, .int .i64 x]))) wz wy vz hm hz | 13, _, hz => exact (flr_m hRr : MStb R (FLr w4.heap.size)) wz wy vz hm hz | j + 14, _, hz => exact hz)) (by decide) hr4 ?_ ?_; (exact ⟨stMf rfl (by decide) (by decide) (fun u w3 hC hd Q K hK => by (go_step; exact hK _ _ rfl (Below.refl _ _) rfl)) (fun u w3 hd hE Q K hK => by (dsimp only at hK ⊢; go_step; exact hK _ rfl rfl)), stMf rfl (by decide) (by decide) (fun u w3 hC hd Q K hK => by (have hu := bis (w := w3) (hd 0 rfl); rw [hu] at hK ⊢; clear hu; have z0 := (mvC hC w1.heap.size hlB hRB 0).trans c0; go_step; exact hK _ _ rfl (Below.refl _ _) rfl)) (fun u w3 hd hE Q K hK => by (dsimp only at hK ⊢; have hu := bis (w := w3) (hd 0 rfl); rw [hu] at hK ⊢; clear hu; have z0 := hE; go_step; exact hK _ rfl rfl)), stM rfl (by decide) (by decide) (by kernel_rfl) (fun u w3 hC hd Q K hK => by (go_step; exact hK _ _ rfl (Below.refl _ _) rfl)), stM rfl (by decide) (by decide) (by kernel_rfl) (fun u w3 hC hd Q K hK => by (have hu := bis (w := w3) (hd 2 rfl); rw [hu] at hK ⊢; clear hu; have z0 := (mvC hC w1.heap.size hlB hRB 0).trans c0; go_step; exact hK _ _ rfl (Below.refl _ _) rfl)), stM rfl (by decide) (by decide) (by kernel_rfl) (fun u w3 hC hd Q K hK => by (have hu := bis (w := w3) (hd 3 rfl); rw [hu] at hK ⊢; clear hu; go_step; exact hK _ _ rfl (Below.refl _ _) rfl)), stM rfl (by decide) (by decide) (by kernel_rfl) (fun u w3 hC hd Q K hK => by (have hu := bis (w := w3) (hd 4 rfl); rw [hu] at hK ⊢; clear hu; have z0 := (mvC hC g hgx hgR 0).trans hu0; go_step; exact hK _ _ rfl (Below.refl _ _) rfl)), stM rfl (by decide) (by decide) (by kernel_rfl) (fun u w3 hC hd Q K hK => by (go_step; exact hK _ _ rfl (Below.refl _ _) rfl)), stM rfl (by decide) (by decide) (by kernel_rfl) (fun u w3 hC hd Q K hK => by (have hu := bis (w := w3) (hd 6 rfl); rw [hu] at hK ⊢; clear hu; have hsz := hC.size; go_step; refine hK _ _ rfl ((Below.refl _ _).alloc (Nat.le_refl _) _) ⟨_, rfl, by simp, by omega, fun j hj => ?_⟩; match j, hj with | 0, _ => exact ⟨_, by simp; try rfl, by omega, by omega⟩ | 1, _ => exact ⟨_, by simp; try rfl, by omega, by omega⟩ | j + 2, hj => exact absurd hj (by omega))), stM rfl (by decide) (by decide) (by kernel_rfl) (fun u w3 hC hd Q K hK => by (go_step; exact hK _ _ rfl (Below.refl _ _) rfl)), stMm rfl (by decide) (by kernel_rfl) (fun u w3 hC hrd hd Q K hK => by (have hu := bis (w := w3) (hd 8 rfl); rw [hu] at hK ⊢; clear hu; go_step; refine (pick_any R bs _ _ _ hrd (by omega) (by omega)).mono ?_; rintro e w5 ⟨x, rfl, hx0, hx1, hx2, hr5, hm5⟩; exact hK _ _ rfl hm5 ⟨x, rfl, hx0, hx1 (by omega), hr5⟩)), stM rfl (by decide) (by decide) (by kernel_rfl) (fun u w3 hC hd Q K hK => by (obtain ⟨x, hu, hx0, hx1, hrx⟩ := hd 9 rfl; rw [hu] at hK ⊢; clear hu; obtain ⟨b, hu, hb1, hb2, hbc⟩ := hd 7 rfl; rw [hu] at hK ⊢; clear hu; obtain ⟨nx, rfl⟩ := Int.eq_ofNat_of_zero_le hx0; go_step; refine hK _ _ rfl (Below.refl _ _) ⟨b, _, rfl, hb1, hb2, ?_⟩; (try simp only [Nat.zero_add, Nat.mul_one, Nat.add_zero]); exact hbc nx (by omega))), stM rfl (by decide) (by decide) (by kernel_rfl) (fun u w3 hC hd Q K hK => by (obtain ⟨b, o, hu, hb1, hb2, x, hbc, hx0, hx1⟩ := hd 10 rfl; rw [hu] at hK ⊢; clear hu; go_step; exact hK _ _ rfl (Below.refl _ _) ⟨x, rfl⟩)), stM rfl (by decide) (by decide) (by kernel_rfl) (fun u w3 hC hd Q K hK => by (obtain ⟨x, hu⟩ := hd 11 rfl; rw [hu] at hK ⊢; clear hu; go_step; exact hK _ _ rfl (Below.refl _ _) ⟨x, rfl⟩)), stM rfl (by decide) (by decide) (by kernel_rfl) (fun u w3 hC hd Q K hK => by (obtain ⟨x, hu⟩ := hd 12 rfl; rw [hu] at hK ⊢; clear hu; go_step; exact hK _ _ rfl ((Below.refl _ _).alloc (Nat.le_refl _) _) ⟨_, x, rfl, hC.size, by simp, by simp, by simp, by simp⟩)), stMt rfl (by decide) (fun u w3 hC hd Q K hK => by (dsimp only at hK ⊢; have hu := bis (w := w3) (hd 5 rfl); rw [hu] at hK ⊢; clear hu; obtain ⟨x9, hu, hx90, hx91, hr9⟩ := hd 9 rfl; rw [hu] at hK ⊢; clear hu; obtain ⟨g7, x7, hu, hg71, hg72, l0, l1, l2⟩ := hd 13 rfl; rw [hu] at hK ⊢; clear hu; obtain ⟨v5, w5, hrun, hs5, hf5, hfm5, hB5, cs5, hl5, X5⟩ := HS4.out.grow hr9 hC rfl HCL.out hu0 31 (slRule hg72 l0 l1 l2); refine wp_append_run (.tmp 52) (.tmp 60) 31 rfl rfl rfl hrun ?_; refine hK _ _ rfl (fun j hj h => ?_) ?_ ?_; (match j, hj, h with | 0, _, h => exact h | 1, _, h => exact h | 2, _, h => exact h | 3, _, h => exact h | 4, _, h => exact h | 5, _, h => exact h | 6, _, h => exact h | 7, _, _ => exact trivial | 8, _, h => exact h | 9, _, _ => exact trivial | 10, _, _ => exact trivial | 11, _, _ => exact trivial | 12, _, _ => exact trivial | 13, _, _ => exact trivial | j + 14, hj, _ => exact absurd hj (by omega)); exact ⟨hs5, hf5, hfm5, cs5, hl5.trans HL.out, X5⟩; exact hB5)), stMb rfl (by decide) (by decide) (by kernel_rfl) (fun u w3 hd Q K hK => by (dsimp only at hK ⊢; have hu := bis (w := w3) (hd 1 rfl); rw [hu] at hK ⊢; clear hu; go_step; exact hK _ rfl rfl)), stMl rfl (by decide) rfl (fun u w3 hd Q K hK => by (dsimp only at hK ⊢; have hu := bis (w := w3) (hd 15 rfl); rw [hu] at hK ⊢; clear hu; have h5 := hd 14 rfl; generalize u 14 = v5 at *; obtain ⟨⟨y5, z0⟩, z1, ⟨qa, qn, qc, hqq⟩, cs5, hl5, X9⟩ := h5; subst hqq; go_step; exact hK _ _ rfl ⟨cs5, _, hl5, Nat.le_refl _, X9⟩)), trivial⟩); intro u w9 hD
          obtain ⟨cs9, q9, hl9, hq9, X9⟩ := hD
          obtain ⟨⟨y0, a0⟩, ⟨y1, a1⟩, z0, z1, HD⟩ := X9.out (p := p) (by rw [hl9]; omega) (by omega)
          have f0 := X9.af 0
          have f1 := X9.af 1
          have k0 := X9.c0
          have k1 := X9.c1
          have HX9 := Lib.hid X9
          clear X9
          go_wp2_with fail
          refine bodyPost_ret (v := .agg #[.slice (some ⟨g, 0, none⟩) k gc, .bool acc]) (by simp [results, Tryd.results25, go_sem, z0, z1]; try rfl) rfl ?_
          exact HD.out
        · have X4 := HS4.out.toX
          obtain ⟨m, rfl⟩ : ∃ m, k = m + 1 := ⟨k - 1, by omega⟩
          have hcl : 0 < cs.length := by rw [HL.out]; omega
          obtain ⟨g, gc, hcv, hgx, hgl, hgs⟩ := X4.gform hcl
          rw [HL.out] at hcv
          subst hcv
          have b0 := X4.c0
          obtain ⟨W5, hW5⟩ : ∃ W5, w4.alloc (.cells #[.slice none 0 0, .int .i64 3, .int .i64 0] 34) = W5 := ⟨_, rfl⟩
          have hal5 : Below w4.heap.size w4 W5 := by rw [← hW5]; exact (Below.refl _ _).alloc (Nat.le_refl _) _
          have X5 := X4.below hal5
          have N5 : RuV (PC (w.heap.size + 1) w1.heap.size (.slice (some ⟨g, 0, none⟩) (m + 1) gc)) W5 (.slice (some ⟨w4.heap.size, 0, none⟩) 1 1) [⟨[], 3, 0⟩] := by rw [← hW5]; exact newRule w4 0 X4.pc
          obtain ⟨⟨y2, s2⟩, f2, X6⟩ := X5.setg (k := m) (by rw [HL.out]; omega) N5 (RcL.short (by simp) (fun r hr => by rw [List.mem_singleton.1 hr]; exact ⟨by simp, fun _ => by simp⟩))
          obtain ⟨W6, hW6⟩ : ∃ W6, W5.setCell ⟨g, m, none⟩ (.slice (some ⟨w4.heap.size, 0, none⟩) 1 1) = W6 := ⟨_, rfl⟩
          rw [hW6] at X6
          have b6 := X6.c0
          obtain ⟨W7, hW7⟩ : ∃ W7, W6.alloc (.cells #[.slice none 0 0, .int .i64 3, .int .i64 m] 34) = W7 := ⟨_, rfl⟩
          have hal7 : Below W6.heap.size W6 W7 := by rw [← hW7]; exact (Below.refl _ _).alloc (Nat.le_refl _) _
          have X7 := X6.below hal7
          have N7 : RuV (PC (w.heap.size + 1) w1.heap.size (.slice (some ⟨g, 0, none⟩) (m + 1) gc)) W7 (.slice (some ⟨W6.heap.size, 0, none⟩) 1 1) [⟨[], 3, m⟩] := by rw [← hW7]; exact newRule W6 m X6.pc
          obtain ⟨⟨y3, s3⟩, f3, X8⟩ := X7.setg (k := 0) (by rw [List.length_set, HL.out]; omega) N7 (RcL.short (by simp) (fun r hr => by rw [List.mem_singleton.1 hr]; exact ⟨by simp, fun _ => by simp⟩))
          obtain ⟨W8, hW8⟩ : ∃ W8, W7.setCell ⟨g, 0, none⟩ (.slice (some ⟨W6.heap.size, 0, none⟩) 1 1) = W8 := ⟨_, rfl⟩
          rw [hW8] at X8
          obtain ⟨⟨y0, a0⟩, ⟨y1, a1⟩, z0, z1, HD⟩ := X8.out (p := p) (by rw [List.length_set, List.length_set, HL.out]; omega) (by omega)
          have f0 := X8.af 0
          have f1 := X8.af 1
          have k0 := X8.c0
          have k1 := X8.c1
          clear X4 X5 X6 X7 X8 N5 N7 hal5 hal7 hcl hgs HS4 HL
          go_wp2_with fail
          refine bodyPost_ret (v := .agg #[.slice (some ⟨g, 0, none⟩) (m + 1) gc, .bool acc]) (by simp [results, Tryd.results25, go_sem, z0, z1]; try rfl) rfl ?_
          exact HD.out
        · have X4 := HS4.out.toX
          have hcl : 0 < cs.length := by rw [HL.out]; omega
          obtain ⟨g, gc, hcv, hgx, hgl, hgs⟩ := X4.gform hcl
          rw [HL.out] at hcv
          subst hcv
          have HX := Lib.hid X4
          have HCL := Lib.hid hcl
          have c0 := X4.c0
          have hlB := X4.lt
          have hRB : w1.heap.size ≠ R := by omega
          have hRr : R < w4.heap.size := by omega
          have hk1 : 0 < k := by omega
          have hcc : (0 : Int) ≤ (k : Int) ∧ (k : Int) ≤ 10 := by omega
          have hq6 : q3 + 1 + 4700 * 6 ≤ 680000 := by omega
          clear X4 hcl hgs
          go_wp2_with fail
          refine wp_region_last (CM R bs _ 4700 w4) (fun a b => Mv R a.heap.size a b) (bof [BIs (.pointer (some ⟨w1.heap.size, 0, none⟩)), BIs (.slice (some ⟨g, 0, none⟩) k gc), BIs (.pointer (some ⟨R, 0, none⟩)), BIs (.int .i64 (k : Int)), (FRv w4.heap.size), BIs (.pointer (some ⟨g, 0, none⟩))]) (fun _ _ _ => True) (FDx R bs w w1.heap.size (q3 + 1 + 4700 * 6) (.slice (some ⟨g, 0, none⟩) k gc) acc k) 6 (by kernel_rfl) rfl (fun u => by simp only [frU, Act.put, List.setIfInBounds_toArray, List.set_cons_succ, List.set_cons_zero, Nat.zero_add, Nat.reduceAdd]; exact rfl) (by kernel_rfl) (by kernel_rfl) (fun iz wz wy vz hbz hz => bof_mst [BIs (.pointer (some ⟨w1.heap.size, 0, none⟩)), BIs (.slice (some ⟨g, 0, none⟩) k gc), BIs (.pointer (some ⟨R, 0, none⟩)), BIs (.int .i64 (k : Int)), (FRv w4.heap.size), BIs (.pointer (some ⟨g, 0, none⟩))] ⟨mst_is _, mst_is _, mst_is _, mst_is _, (frv_m hRr), mst_is _, trivial⟩ iz wz wy vz hbz hz) (CM.start hr4) ?_ ?_; (exact ⟨stSm rfl (fun m u w3 hm hC hd Q K hK => by (go_step; exact hK _ _ rfl hC.same (Mv.refl _ _ _) rfl)), stSm rfl (fun m u w3 hm hC hd Q K hK => by (have hu := bis (w := w3) (hd 0 rfl); rw [hu] at hK ⊢; clear hu; obtain ⟨q3, hr3, hq3, hM⟩ := id hC; have z0 := (mvC hM w1.heap.size hlB hRB 0).trans c0; go_step; exact hK _ _ rfl hC.same (Mv.refl _ _ _) rfl)), stSm rfl (fun m u w3 hm hC hd Q K hK => by (go_step; exact hK _ _ rfl hC.same (Mv.refl _ _ _) rfl)), stSm rfl (fun m u w3 hm hC hd Q K hK => by (go_step; exact hK _ _ rfl hC.same (Mv.refl _ _ _) rfl)), stSm rfl (fun m u w3 hm hC hd Q K hK => by (have hu := bis (w := w3) (hd 2 rfl); rw [hu] at hK ⊢; clear hu; have hu := bis (w := w3) (hd 3 rfl); rw [hu] at hK ⊢; clear hu; obtain ⟨q3, hr3, hq3, hM⟩ := id hC; go_step; refine (drawRus_any R bs _ _ _ 1 (by omega) hcc (.inr rfl) _ hr3 (by omega)).mono ?_; rintro e w5 ⟨v5, rs, q5, rfl, g1, g2, g3, g4, g5, g6⟩; exact hK _ _ rfl (hC.mv g4 (by omega) g6) g6 ⟨rs, (g1.mono hM.size).less (fun k hk => Nat.lt_of_lt_of_le hk hM.size), by have := g2.1; omega, g3, g2.2.2⟩)), stSm rfl (fun m u w3 hm hC hd Q K hK => by (have hu := bis (w := w3) (hd 1 rfl); rw [hu] at hK ⊢; clear hu; go_step; exact hK _ _ rfl hC.same (Mv.refl _ _ _) rfl)), ⟨rfl, fun m u w3 hm hC hF Q K hK => by (dsimp only at hK ⊢; have hu := bis (w := w3) (hF 5 (by decide)); rw [hu] at hK ⊢; clear hu; have h5 := hF 4 (by decide); generalize u 4 = v5 at *; obtain ⟨q3, hr3, hq3, hM⟩ := id hC; obtain ⟨rs, g1, g2⟩ := h5; obtain ⟨va, vc, hvv⟩ := g1.form; obtain ⟨⟨y, z0⟩, z1, X9⟩ := HX.out.puts hr3 hM (k := 0) HCL.out g1 g2; subst hvv;  go_step; exact hK _ _ rfl ⟨_, q3, by rw [List.length_set, HL.out], by omega, X9⟩ (fun _ _ => trivial))⟩⟩); intro u w9 hD _
          obtain ⟨cs9, q9, hl9, hq9, X9⟩ := hD
          obtain ⟨⟨y0, a0⟩, ⟨y1, a1⟩, z0, z1, HD⟩ := X9.out (p := p) (by rw [hl9]; omega) (by omega)
          have f0 := X9.af 0
          have f1 := X9.af 1
          have k0 := X9.c0
          have k1 := X9.c1
          have HX9 := Lib.hid X9
          clear X9
          go_wp2_with fail
          refine bodyPost_ret (v := .agg #[.slice (some ⟨g, 0, none⟩) k gc, .bool acc]) (by simp [results, Tryd.results25, go_sem, z0, z1]; try rfl) rfl ?_
          exact HD.out
end Go.Proofs.YtfcbbahlhjdefaaDoor
