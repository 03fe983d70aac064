/- Drawn ranges, sets, tests, boxes and rules without calls. -/
import Derived.Test.YtfcbbahlhjdefaaDoorRgX
import Derived.Test.YtfcbbahlhjdefaaDoorDxAJ
import Derived.Test.YtfcbbahlhjdefaaDoorDt
import Derived.Test.YtfcbbahlhjdefaaDoorFnX
namespace Go.Proofs.YtfcbbahlhjdefaaDoor
open Go.RowKit
set_option maxHeartbeats 1000000 in
theorem odd_zero (R : Nat) (w : World) :
    Calls Tryd.prog 42 #[.pointer (some ⟨R, 0, none⟩), .int .i64 0] w fun e w' => e = .returned (.bool false) ∧ w = w' := by
  go_enter Tryd.func42, Tryd.ntmps42
  go_wp2
  go_ret
  exact ⟨rfl, rfl⟩
def DrawnSp (R : Nat) (bs : List Int) (p : Nat) (t : Int) (w : World) (e : Ending) (w' : World) : Prop :=
  ∃ (lo hi : Int) (q : Nat), e = .returned (.agg #[.int .i64 lo, .int .i64 hi]) ∧ 0 ≤ lo ∧ lo ≤ hi ∧ hi ≤ t ∧ RdAt R bs w' q ∧ q ≤ p + 50 ∧ Mv R w.heap.size w w'
/-- The drawn range in the making: the answer's block is the first new one, the variable's block is b. -/
structure SpAll (R : Nat) (bs : List Int) (w : World) (b : Nat) (wx : World) (q : Nat) (v0 v1 : Int) : Prop where
  rd : RdAt R bs wx q
  B : Two wx b v0 v1
  A : Two wx w.heap.size 0 0
  mv : Mv R w.heap.size w wx
  hR : R < w.heap.size
  hb : w.heap.size < b
theorem SpAll.mv' {R : Nat} {bs : List Int} {w : World} {b : Nat} {wx wy : World} {q q' : Nat} {v0 v1 : Int} (S : SpAll R bs w b wx q v0 v1) (hr : RdAt R bs wy q') (hm : Mv R wx.heap.size wx wy) : SpAll R bs w b wy q' v0 v1 :=
  ⟨hr, S.B.mv hm S.B.lt (by have := S.hR; have := S.hb; omega), S.A.mv hm S.A.lt (by have := S.hR; omega), S.mv.trans (hm.mono S.mv.size), S.hR, S.hb⟩
theorem SpAll.st {R : Nat} {bs : List Int} {w : World} {b : Nat} {wx : World} {q : Nat} {v0 v1 u0 u1 : Int} (S : SpAll R bs w b wx q v0 v1) {j : Nat} {v : Value} (hB : Two (wx.setCell ⟨b, j, none⟩ v) b u0 u1) : SpAll R bs w b (wx.setCell ⟨b, j, none⟩ v) q u0 u1 :=
  have hA : Below b wx (wx.setCell ⟨b, j, none⟩ v) := (Below.refl b wx).setCell (p := ⟨b, j, none⟩) (Nat.le_refl b) v
  have hlt := S.hb
  have hR := S.hR
  have hq := Mv.of_below (R := R) hA
  ⟨S.rd.up (hA.mono (by omega)), hB, S.A.mv hq hlt (by omega), S.mv.trans (hq.mono (by omega)), S.hR, S.hb⟩
set_option maxHeartbeats 4000000 in
set_option maxRecDepth 100000 in
theorem drawSp_big (R : Nat) (bs : List Int) (p : Nat) (w : World) (h : RdAt R bs w p) (hp : p ≤ 900000) :
    Calls Tryd.prog 78 #[.pointer (some ⟨R, 0, none⟩), .int .i64 65535, .int .i64 0] w (DrawnSp R bs p 65535 w) := by
  have hR := h.lt
  have hA0 := Two.new w 0 0 64
  have hr0 := h.below ((Below.refl _ _).alloc (Nat.le_refl _) (.cells #[.int .i64 0, .int .i64 0] 64))
  have hm0 : Mv R w.heap.size w (w.alloc (.cells #[.int .i64 0, .int .i64 0] 64)) := (Mv.refl _ _ _).alloc (Nat.le_refl _) _
  go_enter Tryd.func78, Tryd.ntmps78
  go_wp2_with fail
  refine (pick_any R bs p _ _ hr0 (by omega) (by omega)).mono ?_
  rintro e w1 ⟨x1, rfl, x10, x11, -, hr1, hm1⟩
  have hx1 := x11 (by omega)
  have hz1 := hm1.size; simp at hz1
  have hA1 := hA0.mv hm1 (by simp) (by omega)
  replace hm1 := hm0.trans (hm1.mono (by simp))
  have S : SpAll R bs w w1.heap.size (w1.alloc (.cells #[.int .i64 x1, .int .i64 0] 64)) _ x1 0 :=
    ⟨hr1.below ((Below.refl _ _).alloc (Nat.le_refl _) _), Two.new w1 _ _ _, hA1.old _, hm1.alloc (by omega) _, hR, by omega⟩
  clear hA0 hr0 hm0 x11 hA1 hm1 hr1
  go_wp2_with fail
  refine (pick_any R bs _ _ _ S.rd (by omega) (by omega)).mono ?_
  rintro e w2 ⟨x2, rfl, x20, x21, -, hr2, hm2⟩
  have hx2 := x21 (by omega)
  have hz2 := hm2.size; simp at hz2
  replace S := S.mv' hr2 hm2
  clear hr2 hm2 x21
  go_upto_if 20 with (fail)
  have ST := Lib.hid S
  clear S
  go_cut [] (fun wx => ∃ v q, SpAll R bs w w1.heap.size wx q v 0 ∧ 0 ≤ v ∧ v ≤ 65535 ∧ q ≤ p + 15)
  case first =>
    have S := ST.out
    by_cases hx : x2 = 0
    · subst hx
      obtain ⟨l0, c0, c1, cf⟩ := id S.B
      have hne : w1.heap.size ≠ R := by omega
      go_wp2_with fail
      refine wp_region_last (CM R bs _ 1 w2) (fun a b => Mv R a.heap.size a b) (bof [BIs (.int .i64 65535), BIs (.pointer (some ⟨w1.heap.size, 0, none⟩)), BIs (.int .i64 x1), BIs (.int .i64 (x1 * 256)), BIs (.pointer (some ⟨R, 0, none⟩)), BV (fun v => ∃ x : Int, v = .int .i64 x ∧ 0 ≤ x ∧ x < 256), BV (fun v => ∃ y, v = .int .i64 y ∧ 0 ≤ y ∧ y ≤ 65535), BV (fun v => ∃ y, v = .int .i64 y ∧ 0 ≤ y ∧ y ≤ 65535), BIs (.pointer (some ⟨w1.heap.size, 0, none⟩))]) (fun _ _ _ => True) (fun w9 => ∃ y wx q, SpAll R bs w w1.heap.size wx q x1 0 ∧ 0 ≤ y ∧ y ≤ 65535 ∧ q ≤ p + 15 ∧ w9 = wx.setCell ⟨w1.heap.size, 0, none⟩ (.int .i64 y)) 9 (by kernel_rfl) rfl (fun u => by simp only [frU, Act.put, List.setIfInBounds_toArray, List.set_cons_succ, List.set_cons_zero, Nat.zero_add, Nat.reduceAdd]; exact rfl) (by kernel_rfl) (by kernel_rfl) (fun iz wz wy vz hbz hz => bof_mst [BIs (.int .i64 65535), BIs (.pointer (some ⟨w1.heap.size, 0, none⟩)), BIs (.int .i64 x1), BIs (.int .i64 (x1 * 256)), BIs (.pointer (some ⟨R, 0, none⟩)), BV (fun v => ∃ x : Int, v = .int .i64 x ∧ 0 ≤ x ∧ x < 256), BV (fun v => ∃ y, v = .int .i64 y ∧ 0 ≤ y ∧ y ≤ 65535), BV (fun v => ∃ y, v = .int .i64 y ∧ 0 ≤ y ∧ y ≤ 65535), BIs (.pointer (some ⟨w1.heap.size, 0, none⟩))] ⟨mst_is _, mst_is _, mst_is _, mst_is _, mst_is _, mst_v _, mst_v _, mst_v _, mst_is _, trivial⟩ iz wz wy vz hbz hz) (CM.start S.rd) ?_ ?_; (exact ⟨stSm rfl (fun m u w3 hm hC hd Q K hK => by (go_step; exact hK _ _ rfl hC.same (Mv.refl _ _ _) rfl)), stSm rfl (fun m u w3 hm hC hd Q K hK => by (go_step; exact hK _ _ rfl hC.same (Mv.refl _ _ _) rfl)), stSm rfl (fun m u w3 hm hC hd Q K hK => by (have hu := bis (w := w3) (hd 1 rfl); rw [hu] at hK ⊢; clear hu; obtain ⟨q3, hr3, hq3, hM⟩ := id hC; have z0 := (mvC hM w1.heap.size l0 hne 0).trans c0; go_step; exact hK _ _ rfl hC.same (Mv.refl _ _ _) rfl)), stSm rfl (fun m u w3 hm hC hd Q K hK => by (have hu := bis (w := w3) (hd 2 rfl); rw [hu] at hK ⊢; clear hu; go_step; exact hK _ _ rfl hC.same (Mv.refl _ _ _) rfl)), stSm rfl (fun m u w3 hm hC hd Q K hK => by (go_step; exact hK _ _ rfl hC.same (Mv.refl _ _ _) rfl)), stSm rfl (fun m u w3 hm hC hd Q K hK => by (have hu := bis (w := w3) (hd 4 rfl); rw [hu] at hK ⊢; clear hu; obtain ⟨q3, hr3, hq3, hM⟩ := id hC; go_step; refine (pick_any R _ _ _ _ hr3 (by omega) (by omega)).mono ?_; rintro e w4 ⟨x, rfl, hx0, hx1, hx2, hr4, hm4⟩; exact hK _ _ rfl (hC.mv hr4 (by omega) hm4) hm4 ⟨x, rfl, hx0, hx1 (by omega)⟩)), stSm rfl (fun m u w3 hm hC hd Q K hK => by (have hu := bis (w := w3) (hd 3 rfl); rw [hu] at hK ⊢; clear hu; obtain ⟨x, hu, hx0, hx1⟩ := hd 5 rfl; rw [hu] at hK ⊢; clear hu; go_step; exact hK _ _ rfl hC.same (Mv.refl _ _ _) ⟨_, rfl, by omega, by omega⟩)), stSm rfl (fun m u w3 hm hC hd Q K hK => by (have hu := bis (w := w3) (hd 0 rfl); rw [hu] at hK ⊢; clear hu; obtain ⟨y, hu, hy0, hy1⟩ := hd 6 rfl; rw [hu] at hK ⊢; clear hu; go_step; exact hK _ _ rfl hC.same (Mv.refl _ _ _) ⟨_, rfl, by omega, by omega⟩)), stSm rfl (fun m u w3 hm hC hd Q K hK => by (go_step; exact hK _ _ rfl hC.same (Mv.refl _ _ _) rfl)), ⟨rfl, fun m u w3 hm hC hF Q K hK => by (dsimp only at hK ⊢; have hu := bis (w := w3) (hF 8 (by decide)); rw [hu] at hK ⊢; clear hu; obtain ⟨y, hu, hy0, hy1⟩ := hF 7 (by decide); rw [hu] at hK ⊢; clear hu; obtain ⟨q3, hr3, hq3, hM⟩ := id hC; have z0 := (mvC hM w1.heap.size l0 hne 0).trans c0; have z1 := (mvF hM w1.heap.size l0 hne 0).trans (cf 0);  go_step; exact hK _ _ rfl ⟨y, w3, q3, S.mv' hr3 hM, hy0, hy1, by omega, rfl⟩ (fun _ _ => trivial))⟩⟩); intro u w9 hD _
      obtain ⟨y, wx, q, S, hy0, hy1, hq, rfl⟩ := hD
      go_wp2_with fail
      go_meet
      exact ⟨y, q, S.st (S.B.set0 y), hy0, hy1, hq⟩
    · have hx' : (x2 == 0) = false := by simpa using hx
      go_wp2_with fail
      go_meet
      exact ⟨_, _, S, by omega, by omega, by omega⟩
  case rest =>
    clear ST
    obtain ⟨v0, q, S, hv0, hv1, hq⟩ := hcut
    obtain ⟨l0, c0, c1, cf⟩ := id S.B
    have hne : w1.heap.size ≠ R := by omega
    obtain ⟨wx, rfl⟩ := nameMv S.mv
    go_upto_region 4 with (fail)
    refine wp_region_last (CM R bs _ 1 wx) (fun a b => Mv R a.heap.size a b) (bof [BIs (.int .i64 65535), BIs (.pointer (some ⟨w1.heap.size, 0, none⟩)), BIs (.int .i64 v0), BIs (.pointer (some ⟨R, 0, none⟩)), BV (fun v => ∃ x : Int, v = .int .i64 x ∧ 0 ≤ x ∧ x < 4), BIs (.pointer (some ⟨R, 0, none⟩)), BV (fun v => ∃ x : Int, v = .int .i64 x ∧ 0 ≤ x ∧ x < 256), FLt R 4 (0) (4096), BIs (.pointer (some ⟨R, 0, none⟩)), BV (fun v => ∃ x : Int, v = .int .i64 x ∧ 0 ≤ x ∧ x < 4), FAd R (0) (4096), BV (fun v => ∃ x : Int, v = .int .i64 x ∧ (0) ≤ x ∧ x ≤ (4096)), BV (fun v => ∃ y, v = .int .i64 y ∧ v0 ≤ y ∧ y ≤ 65535 + 4096), BV (fun v => ∃ y, v = .int .i64 y ∧ v0 ≤ y ∧ y ≤ 65535), BIs (.pointer (some ⟨w1.heap.size, 1, none⟩))]) (fun _ _ _ => True) (fun w9 => ∃ y wy q, SpAll R bs w w1.heap.size wy q v0 0 ∧ v0 ≤ y ∧ y ≤ 65535 ∧ q ≤ p + 32 ∧ w9 = wy.setCell ⟨w1.heap.size, 1, none⟩ (.int .i64 y)) 15 (by kernel_rfl) rfl (fun u => by simp only [frU, Act.put, List.setIfInBounds_toArray, List.set_cons_succ, List.set_cons_zero, Nat.zero_add, Nat.reduceAdd]; exact rfl) (by kernel_rfl) (by kernel_rfl) (fun iz wz wy vz hbz hz => bof_mst [BIs (.int .i64 65535), BIs (.pointer (some ⟨w1.heap.size, 0, none⟩)), BIs (.int .i64 v0), BIs (.pointer (some ⟨R, 0, none⟩)), BV (fun v => ∃ x : Int, v = .int .i64 x ∧ 0 ≤ x ∧ x < 4), BIs (.pointer (some ⟨R, 0, none⟩)), BV (fun v => ∃ x : Int, v = .int .i64 x ∧ 0 ≤ x ∧ x < 256), FLt R 4 (0) (4096), BIs (.pointer (some ⟨R, 0, none⟩)), BV (fun v => ∃ x : Int, v = .int .i64 x ∧ 0 ≤ x ∧ x < 4), FAd R (0) (4096), BV (fun v => ∃ x : Int, v = .int .i64 x ∧ (0) ≤ x ∧ x ≤ (4096)), BV (fun v => ∃ y, v = .int .i64 y ∧ v0 ≤ y ∧ y ≤ 65535 + 4096), BV (fun v => ∃ y, v = .int .i64 y ∧ v0 ≤ y ∧ y ≤ 65535), BIs (.pointer (some ⟨w1.heap.size, 1, none⟩))] ⟨mst_is _, mst_is _, mst_is _, mst_is _, mst_v _, mst_is _, mst_v _, mst_lt, mst_is _, mst_v _, mst_ad, mst_v _, mst_v _, mst_v _, mst_is _, trivial⟩ iz wz wy vz hbz hz) (CM.start S.rd) ?_ ?_; (exact ⟨stSm rfl (fun m u w3 hm hC hd Q K hK => by (go_step; exact hK _ _ rfl hC.same (Mv.refl _ _ _) rfl)), stSm rfl (fun m u w3 hm hC hd Q K hK => by (go_step; exact hK _ _ rfl hC.same (Mv.refl _ _ _) rfl)), stSm rfl (fun m u w3 hm hC hd Q K hK => by (have hu := bis (w := w3) (hd 1 rfl); rw [hu] at hK ⊢; clear hu; obtain ⟨q3, hr3, hq3, hM⟩ := id hC; have z0 := (mvC hM w1.heap.size l0 hne 0).trans c0; go_step; exact hK _ _ rfl hC.same (Mv.refl _ _ _) rfl)), stSm rfl (fun m u w3 hm hC hd Q K hK => by (go_step; exact hK _ _ rfl hC.same (Mv.refl _ _ _) rfl)), stSm rfl (fun m u w3 hm hC hd Q K hK => by (have hu := bis (w := w3) (hd 3 rfl); rw [hu] at hK ⊢; clear hu; obtain ⟨q3, hr3, hq3, hM⟩ := id hC; go_step; refine (pick_any R _ _ _ _ hr3 (by omega) (by omega)).mono ?_; rintro e w4 ⟨x, rfl, hx0, hx1, hx2, hr4, hm4⟩; exact hK _ _ rfl (hC.mv hr4 (by omega) hm4) hm4 ⟨x, rfl, hx0, hx1 (by omega)⟩)), stSm rfl (fun m u w3 hm hC hd Q K hK => by (go_step; exact hK _ _ rfl hC.same (Mv.refl _ _ _) rfl)), stSm rfl (fun m u w3 hm hC hd Q K hK => by (have hu := bis (w := w3) (hd 5 rfl); rw [hu] at hK ⊢; clear hu; obtain ⟨q3, hr3, hq3, hM⟩ := id hC; go_step; refine (pick_any R _ _ _ _ hr3 (by omega) (by omega)).mono ?_; rintro e w4 ⟨x, rfl, hx0, hx1, hx2, hr4, hm4⟩; exact hK _ _ rfl (hC.mv hr4 (by omega) hm4) hm4 ⟨x, rfl, hx0, hx1 (by omega)⟩)), stSm rfl (fun m u w3 hm hC hd Q K hK => by (obtain ⟨x, hu, hx0, hx1⟩ := hd 4 rfl; rw [hu] at hK ⊢; clear hu; obtain ⟨y, hu, hy0, hy1⟩ := hd 6 rfl; rw [hu] at hK ⊢; clear hu; obtain ⟨q3, hr3, hq3, hM⟩ := id hC; go_step; have hal3 := fun o => (Below.refl w3.heap.size w3).alloc (Nat.le_refl _) o; have hlt3 := hr3.lt; refine hK _ _ rfl (hC.below (hal3 _)) (Mv.of_below (hal3 _)) ⟨_, rfl, by simp, by omega, fun j hj => ?_⟩; match j, hj with | 0, _ => exact ⟨_, by simp; try rfl, by omega, by omega⟩ | 1, _ => exact ⟨_, by simp; try rfl, by omega, by omega⟩ | 2, _ => exact ⟨_, by simp; try rfl, by omega, by omega⟩ | 3, _ => exact ⟨_, by simp; try rfl, by omega, by omega⟩ | j + 4, hj => exact absurd hj (by omega))), stSm rfl (fun m u w3 hm hC hd Q K hK => by (go_step; exact hK _ _ rfl hC.same (Mv.refl _ _ _) rfl)), stSm rfl (fun m u w3 hm hC hd Q K hK => by (have hu := bis (w := w3) (hd 8 rfl); rw [hu] at hK ⊢; clear hu; obtain ⟨q3, hr3, hq3, hM⟩ := id hC; go_step; refine (pick_any R _ _ _ _ hr3 (by omega) (by omega)).mono ?_; rintro e w4 ⟨x, rfl, hx0, hx1, hx2, hr4, hm4⟩; exact hK _ _ rfl (hC.mv hr4 (by omega) hm4) hm4 ⟨x, rfl, hx0, hx1 (by omega)⟩)), stSm rfl (fun m u w3 hm hC hd Q K hK => by (obtain ⟨x, hu, hx0, hx1⟩ := hd 9 rfl; rw [hu] at hK ⊢; clear hu; obtain ⟨nx, rfl⟩ := Int.eq_ofNat_of_zero_le hx0; obtain ⟨b, hu, hb1, hb2, hbc⟩ := hd 7 rfl; rw [hu] at hK ⊢; clear hu; go_step; refine hK _ _ rfl hC.same (Mv.refl _ _ _) ⟨b, _, rfl, hb1, hb2, ?_⟩; (try simp only [Nat.zero_add, Nat.mul_one, Nat.add_zero]); exact hbc nx (by omega))), stSm rfl (fun m u w3 hm hC hd Q K hK => by (obtain ⟨b, o, hu, hb1, hb2, x, hbc, hx0, hx1⟩ := hd 10 rfl; rw [hu] at hK ⊢; clear hu; go_step; exact hK _ _ rfl hC.same (Mv.refl _ _ _) ⟨x, rfl, hx0, hx1⟩)), stSm rfl (fun m u w3 hm hC hd Q K hK => by (have hu := bis (w := w3) (hd 2 rfl); rw [hu] at hK ⊢; clear hu; obtain ⟨x, hu, hx0, hx1⟩ := hd 11 rfl; rw [hu] at hK ⊢; clear hu; go_step; exact hK _ _ rfl hC.same (Mv.refl _ _ _) ⟨_, rfl, by omega, by omega⟩)), stSm rfl (fun m u w3 hm hC hd Q K hK => by (have hu := bis (w := w3) (hd 0 rfl); rw [hu] at hK ⊢; clear hu; obtain ⟨y, hu, hy0, hy1⟩ := hd 12 rfl; rw [hu] at hK ⊢; clear hu; go_step; exact hK _ _ rfl hC.same (Mv.refl _ _ _) ⟨_, rfl, by omega, by omega⟩)), stSm rfl (fun m u w3 hm hC hd Q K hK => by (go_step; exact hK _ _ rfl hC.same (Mv.refl _ _ _) rfl)), ⟨rfl, fun m u w3 hm hC hF Q K hK => by (dsimp only at hK ⊢; have hu := bis (w := w3) (hF 14 (by decide)); rw [hu] at hK ⊢; clear hu; obtain ⟨y, hu, hy0, hy1⟩ := hF 13 (by decide); rw [hu] at hK ⊢; clear hu; obtain ⟨q3, hr3, hq3, hM⟩ := id hC; have z0 := (mvC hM w1.heap.size l0 hne 1).trans c1; have z1 := (mvF hM w1.heap.size l0 hne 1).trans (cf 1);  go_step; exact hK _ _ rfl ⟨y, w3, q3, S.mv' hr3 hM, hy0, hy1, by omega, rfl⟩ (fun _ _ => trivial))⟩⟩); intro u w9 hD _
    obtain ⟨y, wy, q', S, hy0, hy1, hq, rfl⟩ := hD
    replace S := S.st (S.B.set1 y)
    go_wp2_with fail
    refine (odd_zero R _).mono ?_
    rintro e _ ⟨rfl, rfl⟩
    obtain ⟨wz, hwz⟩ : ∃ wz, wy.setCell ⟨w1.heap.size, 1, none⟩ (.int .i64 y) = wz := ⟨_, rfl⟩
    rw [hwz] at S ⊢
    clear hwz
    obtain ⟨m0, c0, c1, cf⟩ := id S.B
    obtain ⟨n0, d0, d1, df⟩ := id S.A
    have hbb := S.hb
    have hrd := Lib.hid S.rd
    have hMV := Lib.hid S.mv
    clear S
    go_wp2_with fail
    exact bodyPost_ret (v := .agg #[.int .i64 v0, .int .i64 y]) (by simp [results, Tryd.results78, go_sem, d0, d1]) rfl ⟨v0, y, _, rfl, hv0, hy0, hy1, hrd.out.up (by (repeat' (first | with_reducible exact Below.refl _ _ | with_reducible assumption | with_reducible refine Below.setCell ?_ ?_ _ | with_reducible refine Below.alloc ?_ ?_ _ | with_reducible refine Below.drew ?_ | with_reducible refine belDrewN ?_ _ | with_reducible refine Below.trans ?_ (Below.mono (by assumption) ?_) | omega | (simp; omega) | (simp; done)))), by omega, (hMV.out.setCell (by simp) _).setCell (by simp) _⟩
set_option maxHeartbeats 4000000 in
set_option maxRecDepth 100000 in
theorem drawSp_small (R : Nat) (bs : List Int) (p : Nat) (w : World) (h : RdAt R bs w p) (hp : p ≤ 900000) :
    Calls Tryd.prog 78 #[.pointer (some ⟨R, 0, none⟩), .int .i64 255, .int .i64 0] w (DrawnSp R bs p 255 w) := by
  have hR := h.lt
  have hA0 := Two.new w 0 0 64
  have hr0 := h.below ((Below.refl _ _).alloc (Nat.le_refl _) (.cells #[.int .i64 0, .int .i64 0] 64))
  have hm0 : Mv R w.heap.size w (w.alloc (.cells #[.int .i64 0, .int .i64 0] 64)) := (Mv.refl _ _ _).alloc (Nat.le_refl _) _
  go_enter Tryd.func78, Tryd.ntmps78
  go_wp2_with fail
  refine (pick_any R bs p _ _ hr0 (by omega) (by omega)).mono ?_
  rintro e w1 ⟨x1, rfl, x10, x11, -, hr1, hm1⟩
  have hx1 := x11 (by omega)
  have hz1 := hm1.size; simp at hz1
  have hA1 := hA0.mv hm1 (by simp) (by omega)
  replace hm1 := hm0.trans (hm1.mono (by simp))
  have S : SpAll R bs w w1.heap.size (w1.alloc (.cells #[.int .i64 x1, .int .i64 0] 64)) _ x1 0 :=
    ⟨hr1.below ((Below.refl _ _).alloc (Nat.le_refl _) _), Two.new w1 _ _ _, hA1.old _, hm1.alloc (by omega) _, hR, by omega⟩
  clear hA0 hr0 hm0 x11 hA1 hm1 hr1
  obtain ⟨v0, hv0', hv0, hv1⟩ : ∃ v0, v0 = x1 ∧ 0 ≤ v0 ∧ v0 ≤ 255 := ⟨x1, rfl, by omega, by omega⟩
  rw [← hv0'] at S
  rw [← hv0']
  clear hv0' x10 hx1
  obtain ⟨l0, c0, c1, cf⟩ := id S.B
  have hne : w1.heap.size ≠ R := by omega
  go_upto_region 4 with (fail)
  obtain ⟨wx, hwx⟩ : ∃ wx, w1.alloc (.cells #[.int .i64 v0, .int .i64 0] 64) = wx := ⟨_, rfl⟩
  rw [hwx] at S l0 c0 c1 cf ⊢
  refine wp_region_last (CM R bs _ 1 wx) (fun a b => Mv R a.heap.size a b) (bof [BIs (.int .i64 255), BIs (.pointer (some ⟨w1.heap.size, 0, none⟩)), BIs (.int .i64 v0), BIs (.pointer (some ⟨R, 0, none⟩)), BV (fun v => ∃ x : Int, v = .int .i64 x ∧ 0 ≤ x ∧ x < 4), BIs (.pointer (some ⟨R, 0, none⟩)), BV (fun v => ∃ x : Int, v = .int .i64 x ∧ 0 ≤ x ∧ x < 256), FLt R 4 (0) (4096), BIs (.pointer (some ⟨R, 0, none⟩)), BV (fun v => ∃ x : Int, v = .int .i64 x ∧ 0 ≤ x ∧ x < 4), FAd R (0) (4096), BV (fun v => ∃ x : Int, v = .int .i64 x ∧ (0) ≤ x ∧ x ≤ (4096)), BV (fun v => ∃ y, v = .int .i64 y ∧ v0 ≤ y ∧ y ≤ 255 + 4096), BV (fun v => ∃ y, v = .int .i64 y ∧ v0 ≤ y ∧ y ≤ 255), BIs (.pointer (some ⟨w1.heap.size, 1, none⟩))]) (fun _ _ _ => True) (fun w9 => ∃ y wy q, SpAll R bs w w1.heap.size wy q v0 0 ∧ v0 ≤ y ∧ y ≤ 255 ∧ q ≤ p + 32 ∧ w9 = wy.setCell ⟨w1.heap.size, 1, none⟩ (.int .i64 y)) 15 (by kernel_rfl) rfl (fun u => by simp only [frU, Act.put, List.setIfInBounds_toArray, List.set_cons_succ, List.set_cons_zero, Nat.zero_add, Nat.reduceAdd]; exact rfl) (by kernel_rfl) (by kernel_rfl) (fun iz wz wy vz hbz hz => bof_mst [BIs (.int .i64 255), BIs (.pointer (some ⟨w1.heap.size, 0, none⟩)), BIs (.int .i64 v0), BIs (.pointer (some ⟨R, 0, none⟩)), BV (fun v => ∃ x : Int, v = .int .i64 x ∧ 0 ≤ x ∧ x < 4), BIs (.pointer (some ⟨R, 0, none⟩)), BV (fun v => ∃ x : Int, v = .int .i64 x ∧ 0 ≤ x ∧ x < 256), FLt R 4 (0) (4096), BIs (.pointer (some ⟨R, 0, none⟩)), BV (fun v => ∃ x : Int, v = .int .i64 x ∧ 0 ≤ x ∧ x < 4), FAd R (0) (4096), BV (fun v => ∃ x : Int, v = .int .i64 x ∧ (0) ≤ x ∧ x ≤ (4096)), BV (fun v => ∃ y, v = .int .i64 y ∧ v0 ≤ y ∧ y ≤ 255 + 4096), BV (fun v => ∃ y, v = .int .i64 y ∧ v0 ≤ y ∧ y ≤ 255), BIs (.pointer (some ⟨w1.heap.size, 1, none⟩))] ⟨mst_is _, mst_is _, mst_is _, mst_is _, mst_v _, mst_is _, mst_v _, mst_lt, mst_is _, mst_v _, mst_ad, mst_v _, mst_v _, mst_v _, mst_is _, trivial⟩ iz wz wy vz hbz hz) (CM.start S.rd) ?_ ?_; (exact ⟨stSm rfl (fun m u w3 hm hC hd Q K hK => by (go_step; exact hK _ _ rfl hC.same (Mv.refl _ _ _) rfl)), stSm rfl (fun m u w3 hm hC hd Q K hK => by (go_step; exact hK _ _ rfl hC.same (Mv.refl _ _ _) rfl)), stSm rfl (fun m u w3 hm hC hd Q K hK => by (have hu := bis (w := w3) (hd 1 rfl); rw [hu] at hK ⊢; clear hu; obtain ⟨q3, hr3, hq3, hM⟩ := id hC; have z0 := (mvC hM w1.heap.size l0 hne 0).trans c0; go_step; exact hK _ _ rfl hC.same (Mv.refl _ _ _) rfl)), stSm rfl (fun m u w3 hm hC hd Q K hK => by (go_step; exact hK _ _ rfl hC.same (Mv.refl _ _ _) rfl)), stSm rfl (fun m u w3 hm hC hd Q K hK => by (have hu := bis (w := w3) (hd 3 rfl); rw [hu] at hK ⊢; clear hu; obtain ⟨q3, hr3, hq3, hM⟩ := id hC; go_step; refine (pick_any R _ _ _ _ hr3 (by omega) (by omega)).mono ?_; rintro e w4 ⟨x, rfl, hx0, hx1, hx2, hr4, hm4⟩; exact hK _ _ rfl (hC.mv hr4 (by omega) hm4) hm4 ⟨x, rfl, hx0, hx1 (by omega)⟩)), stSm rfl (fun m u w3 hm hC hd Q K hK => by (go_step; exact hK _ _ rfl hC.same (Mv.refl _ _ _) rfl)), stSm rfl (fun m u w3 hm hC hd Q K hK => by (have hu := bis (w := w3) (hd 5 rfl); rw [hu] at hK ⊢; clear hu; obtain ⟨q3, hr3, hq3, hM⟩ := id hC; go_step; refine (pick_any R _ _ _ _ hr3 (by omega) (by omega)).mono ?_; rintro e w4 ⟨x, rfl, hx0, hx1, hx2, hr4, hm4⟩; exact hK _ _ rfl (hC.mv hr4 (by omega) hm4) hm4 ⟨x, rfl, hx0, hx1 (by omega)⟩)), stSm rfl (fun m u w3 hm hC hd Q K hK => by (obtain ⟨x, hu, hx0, hx1⟩ := hd 4 rfl; rw [hu] at hK ⊢; clear hu; obtain ⟨y, hu, hy0, hy1⟩ := hd 6 rfl; rw [hu] at hK ⊢; clear hu; obtain ⟨q3, hr3, hq3, hM⟩ := id hC; go_step; have hal3 := fun o => (Below.refl w3.heap.size w3).alloc (Nat.le_refl _) o; have hlt3 := hr3.lt; refine hK _ _ rfl (hC.below (hal3 _)) (Mv.of_below (hal3 _)) ⟨_, rfl, by simp, by omega, fun j hj => ?_⟩; match j, hj with | 0, _ => exact ⟨_, by simp; try rfl, by omega, by omega⟩ | 1, _ => exact ⟨_, by simp; try rfl, by omega, by omega⟩ | 2, _ => exact ⟨_, by simp; try rfl, by omega, by omega⟩ | 3, _ => exact ⟨_, by simp; try rfl, by omega, by omega⟩ | j + 4, hj => exact absurd hj (by omega))), stSm rfl (fun m u w3 hm hC hd Q K hK => by (go_step; exact hK _ _ rfl hC.same (Mv.refl _ _ _) rfl)), stSm rfl (fun m u w3 hm hC hd Q K hK => by (have hu := bis (w := w3) (hd 8 rfl); rw [hu] at hK ⊢; clear hu; obtain ⟨q3, hr3, hq3, hM⟩ := id hC; go_step; refine (pick_any R _ _ _ _ hr3 (by omega) (by omega)).mono ?_; rintro e w4 ⟨x, rfl, hx0, hx1, hx2, hr4, hm4⟩; exact hK _ _ rfl (hC.mv hr4 (by omega) hm4) hm4 ⟨x, rfl, hx0, hx1 (by omega)⟩)), stSm rfl (fun m u w3 hm hC hd Q K hK => by (obtain ⟨x, hu, hx0, hx1⟩ := hd 9 rfl; rw [hu] at hK ⊢; clear hu; obtain ⟨nx, rfl⟩ := Int.eq_ofNat_of_zero_le hx0; obtain ⟨b, hu, hb1, hb2, hbc⟩ := hd 7 rfl; rw [hu] at hK ⊢; clear hu; go_step; refine hK _ _ rfl hC.same (Mv.refl _ _ _) ⟨b, _, rfl, hb1, hb2, ?_⟩; (try simp only [Nat.zero_add, Nat.mul_one, Nat.add_zero]); exact hbc nx (by omega))), stSm rfl (fun m u w3 hm hC hd Q K hK => by (obtain ⟨b, o, hu, hb1, hb2, x, hbc, hx0, hx1⟩ := hd 10 rfl; rw [hu] at hK ⊢; clear hu; go_step; exact hK _ _ rfl hC.same (Mv.refl _ _ _) ⟨x, rfl, hx0, hx1⟩)), stSm rfl (fun m u w3 hm hC hd Q K hK => by (have hu := bis (w := w3) (hd 2 rfl); rw [hu] at hK ⊢; clear hu; obtain ⟨x, hu, hx0, hx1⟩ := hd 11 rfl; rw [hu] at hK ⊢; clear hu; go_step; exact hK _ _ rfl hC.same (Mv.refl _ _ _) ⟨_, rfl, by omega, by omega⟩)), stSm rfl (fun m u w3 hm hC hd Q K hK => by (have hu := bis (w := w3) (hd 0 rfl); rw [hu] at hK ⊢; clear hu; obtain ⟨y, hu, hy0, hy1⟩ := hd 12 rfl; rw [hu] at hK ⊢; clear hu; go_step; exact hK _ _ rfl hC.same (Mv.refl _ _ _) ⟨_, rfl, by omega, by omega⟩)), stSm rfl (fun m u w3 hm hC hd Q K hK => by (go_step; exact hK _ _ rfl hC.same (Mv.refl _ _ _) rfl)), ⟨rfl, fun m u w3 hm hC hF Q K hK => by (dsimp only at hK ⊢; have hu := bis (w := w3) (hF 14 (by decide)); rw [hu] at hK ⊢; clear hu; obtain ⟨y, hu, hy0, hy1⟩ := hF 13 (by decide); rw [hu] at hK ⊢; clear hu; obtain ⟨q3, hr3, hq3, hM⟩ := id hC; have z0 := (mvC hM w1.heap.size l0 hne 1).trans c1; have z1 := (mvF hM w1.heap.size l0 hne 1).trans (cf 1);  go_step; exact hK _ _ rfl ⟨y, w3, q3, S.mv' hr3 hM, hy0, hy1, by omega, rfl⟩ (fun _ _ => trivial))⟩⟩); intro u w9 hD _
  obtain ⟨y, wy, q', S, hy0, hy1, hq, rfl⟩ := hD
  replace S := S.st (S.B.set1 y)
  go_wp2_with fail
  refine (odd_zero R _).mono ?_
  rintro e _ ⟨rfl, rfl⟩
  obtain ⟨wz, hwz⟩ : ∃ wz, wy.setCell ⟨w1.heap.size, 1, none⟩ (.int .i64 y) = wz := ⟨_, rfl⟩
  rw [hwz] at S ⊢
  clear hwz
  obtain ⟨m0, c0, c1, cf⟩ := id S.B
  obtain ⟨n0, d0, d1, df⟩ := id S.A
  have hbb := S.hb
  have hrd := Lib.hid S.rd
  have hMV := Lib.hid S.mv
  clear S
  go_wp2_with fail
  exact bodyPost_ret (v := .agg #[.int .i64 v0, .int .i64 y]) (by simp [results, Tryd.results78, go_sem, d0, d1]) rfl ⟨v0, y, _, rfl, hv0, hy0, hy1, hrd.out.up (by (repeat' (first | with_reducible exact Below.refl _ _ | with_reducible assumption | with_reducible refine Below.setCell ?_ ?_ _ | with_reducible refine Below.alloc ?_ ?_ _ | with_reducible refine Below.drew ?_ | with_reducible refine belDrewN ?_ _ | with_reducible refine Below.trans ?_ (Below.mono (by assumption) ?_) | omega | (simp; omega) | (simp; done)))), by omega, (hMV.out.setCell (by simp) _).setCell (by simp) _⟩
set_option maxHeartbeats 4000000 in
set_option maxRecDepth 100000 in
theorem drawSp_seven (R : Nat) (bs : List Int) (p : Nat) (w : World) (h : RdAt R bs w p) (hp : p ≤ 900000) :
    Calls Tryd.prog 78 #[.pointer (some ⟨R, 0, none⟩), .int .i64 7, .int .i64 0] w (DrawnSp R bs p 7 w) := by
  have hR := h.lt
  have hA0 := Two.new w 0 0 64
  have hr0 := h.below ((Below.refl _ _).alloc (Nat.le_refl _) (.cells #[.int .i64 0, .int .i64 0] 64))
  have hm0 : Mv R w.heap.size w (w.alloc (.cells #[.int .i64 0, .int .i64 0] 64)) := (Mv.refl _ _ _).alloc (Nat.le_refl _) _
  go_enter Tryd.func78, Tryd.ntmps78
  go_wp2_with fail
  refine (pick_any R bs p _ _ hr0 (by omega) (by omega)).mono ?_
  rintro e w1 ⟨x1, rfl, x10, x11, -, hr1, hm1⟩
  have hx1 := x11 (by omega)
  have hz1 := hm1.size; simp at hz1
  have hA1 := hA0.mv hm1 (by simp) (by omega)
  replace hm1 := hm0.trans (hm1.mono (by simp))
  have S : SpAll R bs w w1.heap.size (w1.alloc (.cells #[.int .i64 x1, .int .i64 0] 64)) _ x1 0 :=
    ⟨hr1.below ((Below.refl _ _).alloc (Nat.le_refl _) _), Two.new w1 _ _ _, hA1.old _, hm1.alloc (by omega) _, hR, by omega⟩
  clear hA0 hr0 hm0 x11 hA1 hm1 hr1
  obtain ⟨v0, hv0', hv0, hv1⟩ : ∃ v0, v0 = x1 ∧ 0 ≤ v0 ∧ v0 ≤ 7 := ⟨x1, rfl, by omega, by omega⟩
  rw [← hv0'] at S
  rw [← hv0']
  clear hv0' x10 hx1
  obtain ⟨l0, c0, c1, cf⟩ := id S.B
  have hne : w1.heap.size ≠ R := by omega
  go_upto_region 4 with (fail)
  obtain ⟨wx, hwx⟩ : ∃ wx, w1.alloc (.cells #[.int .i64 v0, .int .i64 0] 64) = wx := ⟨_, rfl⟩
  rw [hwx] at S l0 c0 c1 cf ⊢
  refine wp_region_last (CM R bs _ 1 wx) (fun a b => Mv R a.heap.size a b) (bof [BIs (.int .i64 7), BIs (.pointer (some ⟨w1.heap.size, 0, none⟩)), BIs (.int .i64 v0), BIs (.pointer (some ⟨R, 0, none⟩)), BV (fun v => ∃ x : Int, v = .int .i64 x ∧ 0 ≤ x ∧ x < 4), BIs (.pointer (some ⟨R, 0, none⟩)), BV (fun v => ∃ x : Int, v = .int .i64 x ∧ 0 ≤ x ∧ x < 256), FLt R 4 (0) (4096), BIs (.pointer (some ⟨R, 0, none⟩)), BV (fun v => ∃ x : Int, v = .int .i64 x ∧ 0 ≤ x ∧ x < 4), FAd R (0) (4096), BV (fun v => ∃ x : Int, v = .int .i64 x ∧ (0) ≤ x ∧ x ≤ (4096)), BV (fun v => ∃ y, v = .int .i64 y ∧ v0 ≤ y ∧ y ≤ 7 + 4096), BV (fun v => ∃ y, v = .int .i64 y ∧ v0 ≤ y ∧ y ≤ 7), BIs (.pointer (some ⟨w1.heap.size, 1, none⟩))]) (fun _ _ _ => True) (fun w9 => ∃ y wy q, SpAll R bs w w1.heap.size wy q v0 0 ∧ v0 ≤ y ∧ y ≤ 7 ∧ q ≤ p + 32 ∧ w9 = wy.setCell ⟨w1.heap.size, 1, none⟩ (.int .i64 y)) 15 (by kernel_rfl) rfl (fun u => by simp only [frU, Act.put, List.setIfInBounds_toArray, List.set_cons_succ, List.set_cons_zero, Nat.zero_add, Nat.reduceAdd]; exact rfl) (by kernel_rfl) (by kernel_rfl) (fun iz wz wy vz hbz hz => bof_mst [BIs (.int .i64 7), BIs (.pointer (some ⟨w1.heap.size, 0, none⟩)), BIs (.int .i64 v0), BIs (.pointer (some ⟨R, 0, none⟩)), BV (fun v => ∃ x : Int, v = .int .i64 x ∧ 0 ≤ x ∧ x < 4), BIs (.pointer (some ⟨R, 0, none⟩)), BV (fun v => ∃ x : Int, v = .int .i64 x ∧ 0 ≤ x ∧ x < 256), FLt R 4 (0) (4096), BIs (.pointer (some ⟨R, 0, none⟩)), BV (fun v => ∃ x : Int, v = .int .i64 x ∧ 0 ≤ x ∧ x < 4), FAd R (0) (4096), BV (fun v => ∃ x : Int, v = .int .i64 x ∧ (0) ≤ x ∧ x ≤ (4096)), BV (fun v => ∃ y, v = .int .i64 y ∧ v0 ≤ y ∧ y ≤ 7 + 4096), BV (fun v => ∃ y, v = .int .i64 y ∧ v0 ≤ y ∧ y ≤ 7), BIs (.pointer (some ⟨w1.heap.size, 1, none⟩))] ⟨mst_is _, mst_is _, mst_is _, mst_is _, mst_v _, mst_is _, mst_v _, mst_lt, mst_is _, mst_v _, mst_ad, mst_v _, mst_v _, mst_v _, mst_is _, trivial⟩ iz wz wy vz hbz hz) (CM.start S.rd) ?_ ?_; (exact ⟨stSm rfl (fun m u w3 hm hC hd Q K hK => by (go_step; exact hK _ _ rfl hC.same (Mv.refl _ _ _) rfl)), stSm rfl (fun m u w3 hm hC hd Q K hK => by (go_step; exact hK _ _ rfl hC.same (Mv.refl _ _ _) rfl)), stSm rfl (fun m u w3 hm hC hd Q K hK => by (have hu := bis (w := w3) (hd 1 rfl); rw [hu] at hK ⊢; clear hu; obtain ⟨q3, hr3, hq3, hM⟩ := id hC; have z0 := (mvC hM w1.heap.size l0 hne 0).trans c0; go_step; exact hK _ _ rfl hC.same (Mv.refl _ _ _) rfl)), stSm rfl (fun m u w3 hm hC hd Q K hK => by (go_step; exact hK _ _ rfl hC.same (Mv.refl _ _ _) rfl)), stSm rfl (fun m u w3 hm hC hd Q K hK => by (have hu := bis (w := w3) (hd 3 rfl); rw [hu] at hK ⊢; clear hu; obtain ⟨q3, hr3, hq3, hM⟩ := id hC; go_step; refine (pick_any R _ _ _ _ hr3 (by omega) (by omega)).mono ?_; rintro e w4 ⟨x, rfl, hx0, hx1, hx2, hr4, hm4⟩; exact hK _ _ rfl (hC.mv hr4 (by omega) hm4) hm4 ⟨x, rfl, hx0, hx1 (by omega)⟩)), stSm rfl (fun m u w3 hm hC hd Q K hK => by (go_step; exact hK _ _ rfl hC.same (Mv.refl _ _ _) rfl)), stSm rfl (fun m u w3 hm hC hd Q K hK => by (have hu := bis (w := w3) (hd 5 rfl); rw [hu] at hK ⊢; clear hu; obtain ⟨q3, hr3, hq3, hM⟩ := id hC; go_step; refine (pick_any R _ _ _ _ hr3 (by omega) (by omega)).mono ?_; rintro e w4 ⟨x, rfl, hx0, hx1, hx2, hr4, hm4⟩; exact hK _ _ rfl (hC.mv hr4 (by omega) hm4) hm4 ⟨x, rfl, hx0, hx1 (by omega)⟩)), stSm rfl (fun m u w3 hm hC hd Q K hK => by (obtain ⟨x, hu, hx0, hx1⟩ := hd 4 rfl; rw [hu] at hK ⊢; clear hu; obtain ⟨y, hu, hy0, hy1⟩ := hd 6 rfl; rw [hu] at hK ⊢; clear hu; obtain ⟨q3, hr3, hq3, hM⟩ := id hC; go_step; have hal3 := fun o => (Below.refl w3.heap.size w3).alloc (Nat.le_refl _) o; have hlt3 := hr3.lt; refine hK _ _ rfl (hC.below (hal3 _)) (Mv.of_below (hal3 _)) ⟨_, rfl, by simp, by omega, fun j hj => ?_⟩; match j, hj with | 0, _ => exact ⟨_, by simp; try rfl, by omega, by omega⟩ | 1, _ => exact ⟨_, by simp; try rfl, by omega, by omega⟩ | 2, _ => exact ⟨_, by simp; try rfl, by omega, by omega⟩ | 3, _ => exact ⟨_, by simp; try rfl, by omega, by omega⟩ | j + 4, hj => exact absurd hj (by omega))), stSm rfl (fun m u w3 hm hC hd Q K hK => by (go_step; exact hK _ _ rfl hC.same (Mv.refl _ _ _) rfl)), stSm rfl (fun m u w3 hm hC hd Q K hK => by (have hu := bis (w := w3) (hd 8 rfl); rw [hu] at hK ⊢; clear hu; obtain ⟨q3, hr3, hq3, hM⟩ := id hC; go_step; refine (pick_any R _ _ _ _ hr3 (by omega) (by omega)).mono ?_; rintro e w4 ⟨x, rfl, hx0, hx1, hx2, hr4, hm4⟩; exact hK _ _ rfl (hC.mv hr4 (by omega) hm4) hm4 ⟨x, rfl, hx0, hx1 (by omega)⟩)), stSm rfl (fun m u w3 hm hC hd Q K hK => by (obtain ⟨x, hu, hx0, hx1⟩ := hd 9 rfl; rw [hu] at hK ⊢; clear hu; obtain ⟨nx, rfl⟩ := Int.eq_ofNat_of_zero_le hx0; obtain ⟨b, hu, hb1, hb2, hbc⟩ := hd 7 rfl; rw [hu] at hK ⊢; clear hu; go_step; refine hK _ _ rfl hC.same (Mv.refl _ _ _) ⟨b, _, rfl, hb1, hb2, ?_⟩; (try simp only [Nat.zero_add, Nat.mul_one, Nat.add_zero]); exact hbc nx (by omega))), stSm rfl (fun m u w3 hm hC hd Q K hK => by (obtain ⟨b, o, hu, hb1, hb2, x, hbc, hx0, hx1⟩ := hd 10 rfl; rw [hu] at hK ⊢; clear hu; go_step; exact hK _ _ rfl hC.same (Mv.refl _ _ _) ⟨x, rfl, hx0, hx1⟩)), stSm rfl (fun m u w3 hm hC hd Q K hK => by (have hu := bis (w := w3) (hd 2 rfl); rw [hu] at hK ⊢; clear hu; obtain ⟨x, hu, hx0, hx1⟩ := hd 11 rfl; rw [hu] at hK ⊢; clear hu; go_step; exact hK _ _ rfl hC.same (Mv.refl _ _ _) ⟨_, rfl, by omega, by omega⟩)), stSm rfl (fun m u w3 hm hC hd Q K hK => by (have hu := bis (w := w3) (hd 0 rfl); rw [hu] at hK ⊢; clear hu; obtain ⟨y, hu, hy0, hy1⟩ := hd 12 rfl; rw [hu] at hK ⊢; clear hu; go_step; exact hK _ _ rfl hC.same (Mv.refl _ _ _) ⟨_, rfl, by omega, by omega⟩)), stSm rfl (fun m u w3 hm hC hd Q K hK => by (go_step; exact hK _ _ rfl hC.same (Mv.refl _ _ _) rfl)), ⟨rfl, fun m u w3 hm hC hF Q K hK => by (dsimp only at hK ⊢; have hu := bis (w := w3) (hF 14 (by decide)); rw [hu] at hK ⊢; clear hu; obtain ⟨y, hu, hy0, hy1⟩ := hF 13 (by decide); rw [hu] at hK ⊢; clear hu; obtain ⟨q3, hr3, hq3, hM⟩ := id hC; have z0 := (mvC hM w1.heap.size l0 hne 1).trans c1; have z1 := (mvF hM w1.heap.size l0 hne 1).trans (cf 1);  go_step; exact hK _ _ rfl ⟨y, w3, q3, S.mv' hr3 hM, hy0, hy1, by omega, rfl⟩ (fun _ _ => trivial))⟩⟩); intro u w9 hD _
  obtain ⟨y, wy, q', S, hy0, hy1, hq, rfl⟩ := hD
  replace S := S.st (S.B.set1 y)
  go_wp2_with fail
  refine (odd_zero R _).mono ?_
  rintro e _ ⟨rfl, rfl⟩
  obtain ⟨wz, hwz⟩ : ∃ wz, wy.setCell ⟨w1.heap.size, 1, none⟩ (.int .i64 y) = wz := ⟨_, rfl⟩
  rw [hwz] at S ⊢
  clear hwz
  obtain ⟨m0, c0, c1, cf⟩ := id S.B
  obtain ⟨n0, d0, d1, df⟩ := id S.A
  have hbb := S.hb
  have hrd := Lib.hid S.rd
  have hMV := Lib.hid S.mv
  clear S
  go_wp2_with fail
  exact bodyPost_ret (v := .agg #[.int .i64 v0, .int .i64 y]) (by simp [results, Tryd.results78, go_sem, d0, d1]) rfl ⟨v0, y, _, rfl, hv0, hy0, hy1, hrd.out.up (by (repeat' (first | with_reducible exact Below.refl _ _ | with_reducible assumption | with_reducible refine Below.setCell ?_ ?_ _ | with_reducible refine Below.alloc ?_ ?_ _ | with_reducible refine Below.drew ?_ | with_reducible refine belDrewN ?_ _ | with_reducible refine Below.trans ?_ (Below.mono (by assumption) ?_) | omega | (simp; omega) | (simp; done)))), by omega, (hMV.out.setCell (by simp) _).setCell (by simp) _⟩
theorem drawSp_any (R : Nat) (bs : List Int) (p : Nat) (k : Nat) (hk : k < 4) (w : World) (h : RdAt R bs w p) (hp : p ≤ 900000) :
    Calls Tryd.prog 78 #[.pointer (some ⟨R, 0, none⟩), .int .i64 (top k), .int .i64 0] w (DrawnSp R bs p (top k) w) := by
  rcases (by omega : k = 0 ∨ k = 1 ∨ k = 2 ∨ k = 3) with rfl | rfl | rfl | rfl
  · exact drawSp_big R bs p w h hp
  · exact drawSp_big R bs p w h hp
  · exact drawSp_small R bs p w h hp
  · exact drawSp_seven R bs p w h hp
theorem OwnSl.mvK {α : Type} {R base e sz : Nat} {enc : α → List Value} {w w' : World} {v : Value} {ys : List α} (h : OwnSl base e sz enc w v ys) (hm : Mv R w.heap.size w w') (hR : R < base) : OwnSl base e sz enc w' v ys :=
  OwnSl.keepB h (fun g _ g2 g3 => hm.block g g3 (by omega))
/-- A test in a block of the call's own. -/
structure Tq (w : World) (b : Nat) (f lo hi : Int) (q : Bool) : Prop where
  lt : b < w.heap.size
  c0 : w.cell? ⟨b, 0, none⟩ = some (.int .i64 f)
  c1 : w.cell? ⟨b, 1, none⟩ = some (.int .i64 lo)
  c2 : w.cell? ⟨b, 2, none⟩ = some (.int .i64 hi)
  c3 : w.cell? ⟨b, 3, none⟩ = some (.bool q)
  frz : ∀ j, w.frozen? ⟨b, j, none⟩ = false
theorem Tq.mv {R B : Nat} {w w' : World} {b : Nat} {f lo hi : Int} {q : Bool} (h : Tq w b f lo hi q) (hm : Mv R B w w') (hb : b < B) (hne : b ≠ R) : Tq w' b f lo hi q :=
  ⟨Nat.lt_of_lt_of_le h.lt hm.size, (mvC hm b hb hne 0).trans h.c0, (mvC hm b hb hne 1).trans h.c1, (mvC hm b hb hne 2).trans h.c2, (mvC hm b hb hne 3).trans h.c3, fun j => (mvF hm b hb hne j).trans (h.frz j)⟩
theorem Tq.new (w : World) (f lo hi : Int) (q : Bool) (ty : TypeId) : Tq (w.alloc (.cells #[.int .i64 f, .int .i64 lo, .int .i64 hi, .bool q] ty)) w.heap.size f lo hi q := ⟨by simp, by simp, by simp, by simp, by simp, frz_new w _ _⟩
theorem Tq.old {w : World} {b : Nat} {f lo hi : Int} {q : Bool} (h : Tq w b f lo hi q) (o : Obj) : Tq (w.alloc o) b f lo hi q :=
  h.mv (R := w.heap.size) (B := w.heap.size) (Mv.of_below ((Below.refl _ _).alloc (Nat.le_refl _) _)) h.lt (Nat.ne_of_lt h.lt)
theorem Tq.far {w : World} {b : Nat} {f lo hi : Int} {q : Bool} (h : Tq w b f lo hi q) {p : Addr} (hp : p.block ≠ b) (u : Value) : Tq (w.setCell p u) b f lo hi q := by
  obtain ⟨l, h0, h1, h2, h3, hf⟩ := h
  have hb : ∀ o, (w.setCell p u).cell? ⟨b, o, none⟩ = w.cell? ⟨b, o, none⟩ := fun o => World.cell?_of_block (a := ⟨b, o, none⟩) (Below.heap_setCell _ _ _ _ (fun e => hp e.symm))
  exact ⟨by simpa [World.setCell] using l, (hb 0).trans h0, (hb 1).trans h1, (hb 2).trans h2, (hb 3).trans h3, fun j => by simpa using hf j⟩
theorem Tq.set12 {w : World} {b : Nat} {f lo hi : Int} {q : Bool} (h : Tq w b f lo hi q) (x y : Int) : Tq ((w.setCell ⟨b, 1, none⟩ (.int .i64 x)).setCell ⟨b, 2, none⟩ (.int .i64 y)) b f x y q := by
  obtain ⟨l, h0, h1, h2, h3, hf⟩ := h
  refine ⟨by simpa [World.setCell] using l, ?_, ?_, ?_, ?_, fun j => by simpa using hf j⟩
  · rw [World.cell?_setCell_other _ _ _ _ (by simp), World.cell?_setCell_other _ _ _ _ (by simp)]; exact h0
  · rw [World.cell?_setCell_other _ _ _ _ (by simp)]; exact World.cell?_setCell_same' _ _ _ (by rw [h1]; rfl)
  · exact World.cell?_setCell_same' _ _ _ (by rw [World.cell?_setCell_other _ _ _ _ (by simp), h2]; rfl)
  · rw [World.cell?_setCell_other _ _ _ _ (by simp), World.cell?_setCell_other _ _ _ _ (by simp)]; exact h3
/-- The drawn test in the making: the answer's block is the first new one, then those of t and s. -/
structure TsAll (R : Nat) (bs : List Int) (w : World) (b c : Nat) (wx : World) (p : Nat) (f : Int) (q : Bool) (v0 v1 : Int) : Prop where
  rd : RdAt R bs wx p
  T : Tq wx b f 0 0 q
  S : Two wx c v0 v1
  A : Tq wx w.heap.size 0 0 0 false
  mv : Mv R w.heap.size w wx
  hR : R < w.heap.size
  hb : w.heap.size < b
  hc : b < c
theorem TsAll.mv' {R : Nat} {bs : List Int} {w : World} {b c : Nat} {wx wy : World} {p p' : Nat} {f : Int} {q : Bool} {v0 v1 : Int} (S : TsAll R bs w b c wx p f q v0 v1) (hr : RdAt R bs wy p') (hm : Mv R wx.heap.size wx wy) : TsAll R bs w b c wy p' f q v0 v1 :=
  have hR := S.hR; have hb := S.hb; have hc := S.hc
  ⟨hr, S.T.mv hm S.T.lt (by omega), S.S.mv hm S.S.lt (by omega), S.A.mv hm S.A.lt (by omega), S.mv.trans (hm.mono S.mv.size), S.hR, S.hb, S.hc⟩
/-- Stores into the block of s. -/
theorem TsAll.st {R : Nat} {bs : List Int} {w : World} {b c : Nat} {wx wy : World} {p : Nat} {f : Int} {q : Bool} {v0 v1 u0 u1 : Int} (S : TsAll R bs w b c wx p f q v0 v1) (hA : Below c wx wy) (hS : Two wy c u0 u1) : TsAll R bs w b c wy p f q u0 u1 :=
  have hR := S.hR; have hb := S.hb; have hc := S.hc
  have hq := Mv.of_below (R := R) hA
  ⟨S.rd.up (hA.mono (by omega)), S.T.mv hq hc (by omega), hS, S.A.mv hq (by omega) (by omega), S.mv.trans (hq.mono (by omega)), S.hR, S.hb, S.hc⟩
/-- Ranges in a list of the drawing's own. -/
def FS3 (R n : Nat) (T : Int) : World → Value → Prop := fun w v => ∃ b, v = .slice (some ⟨b, 0, none⟩) n n ∧ b < w.heap.size ∧ b ≠ R ∧ ∀ j, j < n → ∃ x y, w.cell? ⟨b, j * 2, none⟩ = some (.int .i64 x) ∧ w.cell? ⟨b, j * 2 + 1, none⟩ = some (.int .i64 y) ∧ 0 ≤ x ∧ x ≤ y ∧ y ≤ T
def FA3 (R : Nat) (T : Int) : World → Value → Prop := fun w v => ∃ b o, v = .pointer (some ⟨b, o, none⟩) ∧ b < w.heap.size ∧ b ≠ R ∧ ∃ x y, w.cell? ⟨b, o, none⟩ = some (.int .i64 x) ∧ w.cell? ⟨b, o + 1, none⟩ = some (.int .i64 y) ∧ 0 ≤ x ∧ x ≤ y ∧ y ≤ T
theorem mst_s3 {R n : Nat} {T : Int} : MStb R (FS3 R n T) := fun _ _ _ hm ⟨b, h1, h2, h3, h4⟩ =>
  ⟨b, h1, Nat.lt_of_lt_of_le h2 hm.size, h3, fun j hj => let ⟨x, y, g0, g1, g2⟩ := h4 j hj; ⟨x, y, (mvC hm b h2 h3 _).trans g0, (mvC hm b h2 h3 _).trans g1, g2⟩⟩
theorem mst_a3 {R : Nat} {T : Int} : MStb R (FA3 R T) := fun _ _ _ hm ⟨b, o, h1, h2, h3, x, y, g0, g1, g2⟩ =>
  ⟨b, o, h1, Nat.lt_of_lt_of_le h2 hm.size, h3, x, y, (mvC hm b h2 h3 _).trans g0, (mvC hm b h2 h3 _).trans g1, g2⟩
/-- The test in the making, its numbers in order. -/
def TsSt (R : Nat) (bs : List Int) (w : World) (b c : Nat) (f : Int) (nt : Bool) (T : Int) (p : Nat) (wx : World) : Prop :=
  ∃ v0 v1 q, TsAll R bs w b c wx q f nt v0 v1 ∧ 0 ≤ v0 ∧ v0 ≤ v1 ∧ v1 ≤ T ∧ q ≤ p
def DrawnTe (R : Nat) (bs : List Int) (p : Nat) (w : World) (e : Ending) (w' : World) : Prop :=
  ∃ (f lo hi : Int) (nt : Bool) (q : Nat), e = .returned (.agg #[.int .i64 f, .int .i64 lo, .int .i64 hi, .bool nt]) ∧ tvalid1 f lo hi = true ∧ RdAt R bs w' q ∧ q ≤ p + 100 ∧ Mv R w.heap.size w w'
set_option maxHeartbeats 4000000 in
set_option maxRecDepth 100000 in
theorem drawTe_any (R : Nat) (bs : List Int) (p : Nat) (w : World) (h : RdAt R bs w p) (hp : p ≤ 800000) :
    Calls Tryd.prog 71 #[.pointer (some ⟨R, 0, none⟩), .int .i64 0] w (DrawnTe R bs p w) := by
  have hR := h.lt
  have hA0 := Tq.new w 0 0 0 false 108
  have hr0 := h.below ((Below.refl _ _).alloc (Nat.le_refl _) (.cells #[.int .i64 0, .int .i64 0, .int .i64 0, .bool false] 108))
  have hm0 : Mv R w.heap.size w (w.alloc (.cells #[.int .i64 0, .int .i64 0, .int .i64 0, .bool false] 108)) := (Mv.refl _ _ _).alloc (Nat.le_refl _) _
  go_enter Tryd.func71, Tryd.ntmps71
  go_wp2_with fail
  refine (pick_any R bs p _ _ hr0 (by omega) (by omega)).mono ?_
  rintro e w1 ⟨x1, rfl, x10, x11, -, hr1, hm1⟩
  have hx1 := x11 (by omega)
  have hz1 := hm1.size; simp at hz1
  have hA1 := hA0.mv hm1 (by simp) (by omega)
  replace hm1 := hm0.trans (hm1.mono (by simp))
  obtain ⟨f, rfl⟩ := Int.eq_ofNat_of_zero_le x10
  clear hA0 hr0 hm0 x11
  go_wp2_with fail
  refine (pick_any R bs _ _ _ hr1 (by omega) (by omega)).mono ?_
  rintro e w2 ⟨x2, rfl, x20, x21, -, hr2, hm2⟩
  have hx2 := x21 (by omega)
  have hz2 := hm2.size
  have hA2 := hA1.mv hm2 (by omega) (by omega)
  replace hm2 := hm1.trans (hm2.mono (by omega))
  obtain ⟨nt, hnt⟩ : ∃ nt : Bool, (x2 == 0) = nt := ⟨_, rfl⟩
  clear hA1 hr1 hm1 x21
  go_wp2_with fail
  refine (specFTop_any f (by omega) _).mono ?_
  rintro e _ ⟨rfl, rfl⟩
  have hT2 := Tq.new w2 f 0 0 nt 108
  have hal2 : Below w2.heap.size w2 (w2.alloc (.cells #[.int .i64 f, .int .i64 0, .int .i64 0, .bool nt] 108)) := (Below.refl _ _).alloc (Nat.le_refl _) _
  have hA3 := hA2.old (.cells #[.int .i64 f, .int .i64 0, .int .i64 0, .bool nt] 108)
  obtain ⟨t0, t1⟩ := top_le (n := f) (by omega)
  have ht2 : f < 2 → 30 ≤ top f := fun h => by rcases (by omega : f = 0 ∨ f = 1) with rfl | rfl <;> simp [top]
  have HC := Lib.hid (fun q w h hp => drawSp_any R bs q f (by omega) w h hp)
  obtain ⟨T, hT⟩ : ∃ T, top f = T := ⟨_, rfl⟩
  have HT := Lib.hid hT
  rw [hT] at t0 t1 ht2 HC ⊢
  clear hT
  go_wp2_with fail
  refine (HC.out _ _ (hr2.below hal2) (by omega)).mono ?_
  rintro e wb ⟨v0, v1, q3, rfl, g0, g1, g2, hr3, hq3, hm3⟩
  have hz3 := hm3.size
  simp at hz3
  have S : TsAll R bs w w2.heap.size wb.heap.size (wb.alloc (.cells #[.int .i64 v0, .int .i64 v1] 64)) q3 f nt v0 v1 :=
    ⟨hr3.below ((Below.refl _ _).alloc (Nat.le_refl _) _), (hT2.mv hm3 (by simp) (by omega)).old _, Two.new wb _ _ _, (hA3.mv hm3 (by simp; omega) (by omega)).old _, ((hm2.alloc (by omega) _).trans (hm3.mono (by simp; omega))).alloc (by omega) _, hR, by omega, by omega⟩
  clear hT2 hal2 hA3 hr2 hA2 hm2 hr3 hm3 HC
  have ST := Lib.hid (show TsSt R bs w w2.heap.size wb.heap.size f nt T (p + 52) _ from ⟨v0, v1, q3, S, g0, g1, g2, by omega⟩)
  clear S g0 g1 g2
  have hR' : R < w2.heap.size := by omega
  go_upto_region 4 with (fail)
  go_cut [27] (fun t wx => ∃ bb, t = .bool bb ∧ (bb = true → 30 ≤ T) ∧ TsSt R bs w w2.heap.size wb.heap.size f nt T (p + 53) wx)
  case first =>
    obtain ⟨u0, u1, q, S, g0, g1, g2, hq⟩ := ST.out
    clear ST
    obtain ⟨l0, c0, c1, c2, c3, cf⟩ := id S.T
    by_cases hf : f < 2
    · have hfi : (f : Int) < 2 := by omega
      go_wp2_with fail
      refine (pick_any R bs _ _ _ S.rd (by omega) (by omega)).mono ?_
      rintro e w4 ⟨x4, rfl, x40, x41, -, hr4, hm4⟩
      replace S := S.mv' hr4 hm4
      clear hr4 hm4 x41
      go_wp2_with fail
      go_meet
      exact ⟨_, rfl, fun _ => ht2 hf, u0, u1, _, S, g0, g1, g2, by omega⟩
    · have hfi : ¬ (f : Int) < 2 := by omega
      go_wp2_with fail
      go_meet
      exact ⟨_, rfl, fun h => by simp at h, u0, u1, _, S, g0, g1, g2, by omega⟩
  case rest =>
    obtain ⟨bb, rfl, hbb, hst⟩ := hcut
    clear ST
    have ST := Lib.hid hst
    clear hst
    go_upto_if 27 with (fail)
    go_cut [] (fun wx => TsSt R bs w w2.heap.size wb.heap.size f nt T (p + 70) wx)
    case first =>
      obtain ⟨u0, u1, q, S, g0, g1, g2, hq⟩ := ST.out
      clear ST
      cases bb
      · go_wp2_with fail
        go_meet
        exact ⟨u0, u1, _, S, g0, g1, g2, by omega⟩
      · have hT := hbb rfl
        go_wp2_with fail
        refine (pick_any R bs _ _ _ S.rd (by omega) (by omega)).mono ?_
        rintro e w4 ⟨x4, rfl, x40, x41, -, hr4, hm4⟩
        have hx4 := x41 (by omega)
        replace S := S.mv' hr4 hm4
        clear hr4 hm4 x41
        obtain ⟨l0, c0, c1, cf⟩ := id S.S
        go_upto_region 6 with (fail)
        replace S := S.st (wy := (w4.setCell ⟨wb.heap.size, 0, none⟩ (.int .i64 x4)).setCell ⟨wb.heap.size, 1, none⟩ (.int .i64 0)) (((Below.refl _ _).setCell (p := ⟨wb.heap.size, 0, none⟩) (Nat.le_refl _) _).setCell (p := ⟨wb.heap.size, 1, none⟩) (Nat.le_refl _) _) ((S.S.set0 x4).set1 0)
        obtain ⟨wx, hwx⟩ : ∃ wx, (w4.setCell ⟨wb.heap.size, 0, none⟩ (.int .i64 x4)).setCell ⟨wb.heap.size, 1, none⟩ (.int .i64 0) = wx := ⟨_, rfl⟩
        rw [hwx] at S ⊢
        clear hwx l0 c0 c1 cf
        obtain ⟨l0, c0, c1, cf⟩ := id S.S
        have hne : wb.heap.size ≠ R := by omega
        refine wp_region_last (CM R bs _ 1 wx) (fun a b => Mv R a.heap.size a b) (bof [BIs (.pointer (some ⟨wb.heap.size, 0, none⟩)), BIs (.int .i64 x4), BIs (.pointer (some ⟨R, 0, none⟩)), BV (fun v => ∃ x : Int, v = .int .i64 x ∧ 0 ≤ x ∧ x < 8), BV (fun v => ∃ y, v = .int .i64 y ∧ x4 ≤ y ∧ y ≤ 30), BIs (.pointer (some ⟨wb.heap.size, 1, none⟩))]) (fun _ _ _ => True) (fun w9 => ∃ y wy q, TsAll R bs w w2.heap.size wb.heap.size wy q f nt x4 0 ∧ x4 ≤ y ∧ y ≤ 30 ∧ q ≤ p + 70 ∧ w9 = wy.setCell ⟨wb.heap.size, 1, none⟩ (.int .i64 y)) 6 (by kernel_rfl) rfl (fun u => by simp only [frU, Act.put, List.setIfInBounds_toArray, List.set_cons_succ, List.set_cons_zero, Nat.zero_add, Nat.reduceAdd]; exact rfl) (by kernel_rfl) (by kernel_rfl) (fun iz wz wy vz hbz hz => bof_mst [BIs (.pointer (some ⟨wb.heap.size, 0, none⟩)), BIs (.int .i64 x4), BIs (.pointer (some ⟨R, 0, none⟩)), BV (fun v => ∃ x : Int, v = .int .i64 x ∧ 0 ≤ x ∧ x < 8), BV (fun v => ∃ y, v = .int .i64 y ∧ x4 ≤ y ∧ y ≤ 30), BIs (.pointer (some ⟨wb.heap.size, 1, none⟩))] ⟨mst_is _, mst_is _, mst_is _, mst_v _, mst_v _, mst_is _, trivial⟩ iz wz wy vz hbz hz) (CM.start S.rd) ?_ ?_; (exact ⟨stSm rfl (fun m u w3 hm hC hd Q K hK => by (go_step; exact hK _ _ rfl hC.same (Mv.refl _ _ _) rfl)), stSm rfl (fun m u w3 hm hC hd Q K hK => by (have hu := bis (w := w3) (hd 0 rfl); rw [hu] at hK ⊢; clear hu; obtain ⟨q3, hr3, hq3, hM⟩ := id hC; have z0 := (mvC hM wb.heap.size l0 hne 0).trans c0; go_step; exact hK _ _ rfl hC.same (Mv.refl _ _ _) rfl)), stSm rfl (fun m u w3 hm hC hd Q K hK => by (go_step; exact hK _ _ rfl hC.same (Mv.refl _ _ _) rfl)), stSm rfl (fun m u w3 hm hC hd Q K hK => by (have hu := bis (w := w3) (hd 2 rfl); rw [hu] at hK ⊢; clear hu; obtain ⟨q3, hr3, hq3, hM⟩ := id hC; go_step; refine (pick_any R _ _ _ _ hr3 (by omega) (by omega)).mono ?_; rintro e w4 ⟨x, rfl, hx0, hx1, hx2, hr4, hm4⟩; exact hK _ _ rfl (hC.mv hr4 (by omega) hm4) hm4 ⟨x, rfl, hx0, hx1 (by omega)⟩)), stSm rfl (fun m u w3 hm hC hd Q K hK => by (have hu := bis (w := w3) (hd 1 rfl); rw [hu] at hK ⊢; clear hu; obtain ⟨x, hu, hx0, hx1⟩ := hd 3 rfl; rw [hu] at hK ⊢; clear hu; go_step; exact hK _ _ rfl hC.same (Mv.refl _ _ _) ⟨_, rfl, by omega, by omega⟩)), stSm rfl (fun m u w3 hm hC hd Q K hK => by (go_step; exact hK _ _ rfl hC.same (Mv.refl _ _ _) rfl)), ⟨rfl, fun m u w3 hm hC hF Q K hK => by (dsimp only at hK ⊢; have hu := bis (w := w3) (hF 5 (by decide)); rw [hu] at hK ⊢; clear hu; obtain ⟨y, hu, hy0, hy1⟩ := hF 4 (by decide); rw [hu] at hK ⊢; clear hu; obtain ⟨q3, hr3, hq3, hM⟩ := id hC; have z0 := (mvC hM wb.heap.size l0 hne 1).trans c1; have z1 := (mvF hM wb.heap.size l0 hne 1).trans (cf 1);  go_step; exact hK _ _ rfl ⟨y, w3, q3, S.mv' hr3 hM, hy0, hy1, by omega, rfl⟩ (fun _ _ => trivial))⟩⟩); intro u w9 hD _
        obtain ⟨y, wy, q', S, hy0, hy1, hq', rfl⟩ := hD
        replace S := S.st (wy := wy.setCell ⟨wb.heap.size, 1, none⟩ (.int .i64 y)) ((Below.refl _ _).setCell (p := ⟨wb.heap.size, 1, none⟩) (Nat.le_refl _) _) (S.S.set1 y)
        go_wp2_with fail
        go_meet
        exact ⟨x4, y, _, S, by omega, by omega, by omega, hq'⟩
    case rest =>
      clear ST hbb
      obtain ⟨u0, u1, q, S, g0, g1, g2, hq⟩ := hcut
      go_upto_region 7 with (fail)
      obtain ⟨l0, c0, c1, cf⟩ := id S.S
      have hne : wb.heap.size ≠ R := by omega
      go_wp2_with fail
      refine (pick_any R bs _ _ _ S.rd (by omega) (by omega)).mono ?_
      rintro e w4 ⟨x4, rfl, x40, x41, -, hr4, hm4⟩
      replace S := S.mv' hr4 hm4
      clear hr4 hm4 x41 l0 c0 c1 cf
      have ST := Lib.hid S
      clear S
      go_upto_if 39 with (fail)
      go_cut [] (fun wx => TsSt R bs w w2.heap.size wb.heap.size f nt T (p + 90) wx)
      case first =>
        have S := ST.out
        clear ST
        obtain ⟨l0, c0, c1, cf⟩ := id S.S
        by_cases hx : x4 = 0
        · subst hx
          go_wp2_with fail
          refine wp_region_last (CM R bs _ 1 w4) (fun a b => Mv R a.heap.size a b) (bof [BIs (.int .i64 T), BIs (.agg #[.int .i64 0, .int .i64 T]), BIs (.pointer (some ⟨wb.heap.size, 1, none⟩)), BIs (.int .i64 u1), BIs (.agg #[.int .i64 0, .int .i64 u1]), BIs (.pointer (some ⟨wb.heap.size, 0, none⟩)), BIs (.int .i64 u0), BIs (.int .i64 T), BIs (.agg #[.int .i64 u0, .int .i64 T]), (FS3 R 3 T), BIs (.pointer (some ⟨R, 0, none⟩)), BV (fun v => ∃ x : Int, v = .int .i64 x ∧ 0 ≤ x ∧ x < 3), (FA3 R T), (BV (fun v => ∃ x y : Int, v = .agg #[.int .i64 x, .int .i64 y] ∧ 0 ≤ x ∧ x ≤ y ∧ y ≤ T))]) (fun _ _ _ => True) (fun w9 => ∃ x y wy q, TsAll R bs w w2.heap.size wb.heap.size wy q f nt u0 u1 ∧ 0 ≤ x ∧ x ≤ y ∧ y ≤ T ∧ q ≤ p + 90 ∧ w9 = (wy.setCell ⟨wb.heap.size, 0, none⟩ (.int .i64 x)).setCell ⟨wb.heap.size, 1, none⟩ (.int .i64 y)) 14 (by kernel_rfl) rfl (fun u => by simp only [frU, Act.put, List.setIfInBounds_toArray, List.set_cons_succ, List.set_cons_zero, Nat.zero_add, Nat.reduceAdd]; exact rfl) (by kernel_rfl) (by kernel_rfl) (fun iz wz wy vz hbz hz => bof_mst [BIs (.int .i64 T), BIs (.agg #[.int .i64 0, .int .i64 T]), BIs (.pointer (some ⟨wb.heap.size, 1, none⟩)), BIs (.int .i64 u1), BIs (.agg #[.int .i64 0, .int .i64 u1]), BIs (.pointer (some ⟨wb.heap.size, 0, none⟩)), BIs (.int .i64 u0), BIs (.int .i64 T), BIs (.agg #[.int .i64 u0, .int .i64 T]), (FS3 R 3 T), BIs (.pointer (some ⟨R, 0, none⟩)), BV (fun v => ∃ x : Int, v = .int .i64 x ∧ 0 ≤ x ∧ x < 3), (FA3 R T), (BV (fun v => ∃ x y : Int, v = .agg #[.int .i64 x, .int .i64 y] ∧ 0 ≤ x ∧ x ≤ y ∧ y ≤ T))] ⟨mst_is _, mst_is _, mst_is _, mst_is _, mst_is _, mst_is _, mst_is _, mst_is _, mst_is _, (mst_s3), mst_is _, mst_v _, (mst_a3), (mst_v _), trivial⟩ iz wz wy vz hbz hz) (CM.start S.rd) ?_ ?_; (exact ⟨stSm rfl (fun m u w3 hm hC hd Q K hK => by (go_step; exact hK _ _ rfl hC.same (Mv.refl _ _ _) rfl)), stSm rfl (fun m u w3 hm hC hd Q K hK => by (have hu := bis (w := w3) (hd 0 rfl); rw [hu] at hK ⊢; clear hu; go_step; exact hK _ _ rfl hC.same (Mv.refl _ _ _) rfl)), stSm rfl (fun m u w3 hm hC hd Q K hK => by (go_step; exact hK _ _ rfl hC.same (Mv.refl _ _ _) rfl)), stSm rfl (fun m u w3 hm hC hd Q K hK => by (have hu := bis (w := w3) (hd 2 rfl); rw [hu] at hK ⊢; clear hu; obtain ⟨q3, hr3, hq3, hM⟩ := id hC; have z0 := (mvC hM wb.heap.size l0 hne 1).trans c1; go_step; exact hK _ _ rfl hC.same (Mv.refl _ _ _) rfl)), stSm rfl (fun m u w3 hm hC hd Q K hK => by (have hu := bis (w := w3) (hd 3 rfl); rw [hu] at hK ⊢; clear hu; go_step; exact hK _ _ rfl hC.same (Mv.refl _ _ _) rfl)), stSm rfl (fun m u w3 hm hC hd Q K hK => by (go_step; exact hK _ _ rfl hC.same (Mv.refl _ _ _) rfl)), stSm rfl (fun m u w3 hm hC hd Q K hK => by (have hu := bis (w := w3) (hd 5 rfl); rw [hu] at hK ⊢; clear hu; obtain ⟨q3, hr3, hq3, hM⟩ := id hC; have z0 := (mvC hM wb.heap.size l0 hne 0).trans c0; go_step; exact hK _ _ rfl hC.same (Mv.refl _ _ _) rfl)), stSm rfl (fun m u w3 hm hC hd Q K hK => by (go_step; exact hK _ _ rfl hC.same (Mv.refl _ _ _) rfl)), stSm rfl (fun m u w3 hm hC hd Q K hK => by (have hu := bis (w := w3) (hd 6 rfl); rw [hu] at hK ⊢; clear hu; have hu := bis (w := w3) (hd 7 rfl); rw [hu] at hK ⊢; clear hu; go_step; exact hK _ _ rfl hC.same (Mv.refl _ _ _) rfl)), stSm rfl (fun m u w3 hm hC hd Q K hK => by (have hu := bis (w := w3) (hd 1 rfl); rw [hu] at hK ⊢; clear hu; have hu := bis (w := w3) (hd 4 rfl); rw [hu] at hK ⊢; clear hu; have hu := bis (w := w3) (hd 8 rfl); rw [hu] at hK ⊢; clear hu; obtain ⟨q3, hr3, hq3, hM⟩ := id hC; go_step; have hal3 := fun o => (Below.refl w3.heap.size w3).alloc (Nat.le_refl _) o; have hlt3 := hr3.lt; refine hK _ _ rfl (hC.below (hal3 _)) (Mv.of_below (hal3 _)) ⟨_, rfl, by simp, by omega, fun j hj => ?_⟩; match j, hj with | 0, _ => exact ⟨0, T, by simp, by simp, by omega, by omega, by omega⟩ | 1, _ => exact ⟨0, u1, by simp, by simp, by omega, by omega, by omega⟩ | 2, _ => exact ⟨u0, T, by simp, by simp, by omega, by omega, by omega⟩ | j + 3, hj => exact absurd hj (by omega))), stSm rfl (fun m u w3 hm hC hd Q K hK => by (go_step; exact hK _ _ rfl hC.same (Mv.refl _ _ _) rfl)), stSm rfl (fun m u w3 hm hC hd Q K hK => by (have hu := bis (w := w3) (hd 10 rfl); rw [hu] at hK ⊢; clear hu; obtain ⟨q3, hr3, hq3, hM⟩ := id hC; go_step; refine (pick_any R _ _ _ _ hr3 (by omega) (by omega)).mono ?_; rintro e w4 ⟨x, rfl, hx0, hx1, hx2, hr4, hm4⟩; exact hK _ _ rfl (hC.mv hr4 (by omega) hm4) hm4 ⟨x, rfl, hx0, hx1 (by omega)⟩)), stSm rfl (fun m u w3 hm hC hd Q K hK => by (obtain ⟨q3, hr3, hq3, hM⟩ := id hC; obtain ⟨x, hu, hx0, hx1⟩ := hd 11 rfl; rw [hu] at hK ⊢; clear hu; obtain ⟨nx, rfl⟩ := Int.eq_ofNat_of_zero_le hx0; obtain ⟨b, hu, hb1, hb2, hbc⟩ := hd 9 rfl; rw [hu] at hK ⊢; clear hu; go_step; refine hK _ _ rfl hC.same (Mv.refl _ _ _) ⟨b, _, rfl, hb1, hb2, ?_⟩; (try simp only [Nat.zero_add]); exact hbc nx (by omega))), stSm rfl (fun m u w3 hm hC hd Q K hK => by (obtain ⟨q3, hr3, hq3, hM⟩ := id hC; obtain ⟨b, o, hu, hb1, hb2, x, y, e0, e1, k0, k1, k2⟩ := hd 12 rfl; rw [hu] at hK ⊢; clear hu; go_step; exact hK _ _ rfl hC.same (Mv.refl _ _ _) ⟨x, y, rfl, k0, k1, k2⟩)), ⟨rfl, fun m u w3 hm hC hF Q K hK => by (dsimp only at hK ⊢; obtain ⟨x, y, hu, k0, k1, k2⟩ := hF 13 (by decide); rw [hu] at hK ⊢; clear hu; obtain ⟨q3, hr3, hq3, hM⟩ := id hC; have z0 := (mvC hM wb.heap.size l0 hne 0).trans c0; have z1 := (mvF hM wb.heap.size l0 hne 0).trans (cf 0); have z2 := (mvC hM wb.heap.size l0 hne 1).trans c1; have z3 := (mvF hM wb.heap.size l0 hne 1).trans (cf 1);  go_step; exact hK _ _ rfl ⟨x, y, w3, q3, S.mv' hr3 hM, k0, k1, k2, by omega, rfl⟩ (fun _ _ => trivial))⟩⟩); intro u w9 hD _
          obtain ⟨x, y, wy, q', S, k0, k1, k2, hq', rfl⟩ := hD
          replace S := S.st (wy := (wy.setCell ⟨wb.heap.size, 0, none⟩ (.int .i64 x)).setCell ⟨wb.heap.size, 1, none⟩ (.int .i64 y)) (((Below.refl _ _).setCell (p := ⟨wb.heap.size, 0, none⟩) (Nat.le_refl _) _).setCell (p := ⟨wb.heap.size, 1, none⟩) (Nat.le_refl _) _) ((S.S.set0 x).set1 y)
          go_wp2_with fail
          go_meet
          exact ⟨x, y, _, S, k0, k1, k2, hq'⟩
        · have hx' : (x4 == 0) = false := by simpa using hx
          go_wp2_with fail
          go_meet
          exact ⟨u0, u1, _, S, g0, g1, g2, by omega⟩
      case rest =>
        clear ST
        obtain ⟨v0, v1, q9, S, k0, k1, k2, hq9⟩ := hcut
        obtain ⟨l0, c0, c1, cf⟩ := id S.S
        obtain ⟨m0, d0, d1, d2, d3, df⟩ := id S.T
        go_wp2_with fail
        refine (odd_zero R _).mono ?_
        rintro e _ ⟨rfl, rfl⟩
        have hB : Below w2.heap.size wc ((wc.setCell ⟨w2.heap.size, 1, none⟩ (.int .i64 v0)).setCell ⟨w2.heap.size, 2, none⟩ (.int .i64 v1)) := ((Below.refl _ _).setCell (p := ⟨w2.heap.size, 1, none⟩) (Nat.le_refl _) _).setCell (p := ⟨w2.heap.size, 2, none⟩) (Nat.le_refl _) _
        have T' := S.T.set12 v0 v1
        have A' := (S.A.far (p := ⟨w2.heap.size, 1, none⟩) (by simp only; omega) (.int .i64 v0)).far (p := ⟨w2.heap.size, 2, none⟩) (by simp only; omega) (.int .i64 v1)
        have R' := S.rd.up (hB.mono (by omega))
        have M' : Mv R w.heap.size w _ := S.mv.trans (Mv.of_below (hB.mono (by omega)))
        obtain ⟨wd, hwd⟩ : ∃ wd, (wc.setCell ⟨w2.heap.size, 1, none⟩ (.int .i64 v0)).setCell ⟨w2.heap.size, 2, none⟩ (.int .i64 v1) = wd := ⟨_, rfl⟩
        rw [hwd] at T' A' R' M' ⊢
        have HR := Lib.hid R'
        have HM := Lib.hid M'
        clear hwd S hB l0 c0 c1 cf m0 d0 d1 d2 d3 df R' M'
        obtain ⟨l0, c0, c1, c2, c3, cf⟩ := T'
        obtain ⟨m0, d0, d1, d2, d3, df⟩ := A'
        have HV := Lib.hid (show tvalid1 f v0 v1 = true by
          unfold tvalid1
          have := HT.out
          simp only [Bool.and_eq_true, decide_eq_true_eq, inB_iff, Int.toNat_natCast]
          omega)
        go_wp2_with fail
        exact bodyPost_ret (v := .agg #[.int .i64 f, .int .i64 v0, .int .i64 v1, .bool nt]) (by simp [results, Tryd.results71, go_sem, d0, d1, d2, d3]) rfl ⟨f, v0, v1, nt, _, rfl, HV.out, HR.out.up (by (repeat' (first | with_reducible exact Below.refl _ _ | with_reducible assumption | with_reducible refine Below.setCell ?_ ?_ _ | with_reducible refine Below.alloc ?_ ?_ _ | with_reducible refine Below.drew ?_ | with_reducible refine belDrewN ?_ _ | with_reducible refine Below.trans ?_ (Below.mono (by assumption) ?_) | omega | (simp; omega) | (simp; done)))), by omega, (((HM.out.setCell (by simp) _).setCell (by simp) _).setCell (by simp) _).setCell (by simp) _⟩
theorem infoTe : (Tryd.prog.info? 108).map (fun i => (i.zero, i.size, i.bytes)) = some (some (.agg #[.int .i64 0, .int .i64 0, .int .i64 0, .bool false]), 4, 32) := by kernel_rfl
def OwnTd (base : Nat) (w : World) (v : Value) (ys : List Te) : Prop := OwnSl base 108 4 Te.enc w v ys
def TeOk (ts : List Te) : Prop := ∀ (k : Nat) t, ts[k]? = some t → t.ok = true
def DrawnTes (R : Nat) (bs : List Int) (p : Nat) (w : World) (e : Ending) (w' : World) : Prop :=
  ∃ v ts q, e = .returned v ∧ OwnTd w.heap.size w' v ts ∧ ts.length ≤ 3 ∧ TeOk ts ∧ RdAt R bs w' q ∧ q ≤ p + 320 ∧ Mv R w.heap.size w w'
theorem TeOk.snoc {xs : List Te} (h : TeOk xs) {x : Te} (hx : x.ok = true) : TeOk (xs ++ [x]) := by
  intro k y hk
  by_cases hl : k < xs.length
  · rw [List.getElem?_append_left hl] at hk; exact h k y hk
  · have := (List.getElem?_eq_some_iff.1 hk).1
    simp at this
    obtain rfl : k = xs.length := by omega
    simp at hk
    subst hk; exact hx
theorem OwnTd.lit {base : Nat} {w : World} (h : base ≤ w.heap.size) : OwnTd base (w.alloc (.cells #[] 108)) (.slice (some ⟨w.heap.size, 0, none⟩) 0 0) [] := by
  have := World.ownsRow_made (e := 108) (size := 4) w #[] 0 h (by simp) (by simp)
  simpa [OwnTd, OwnSl] using this
set_option maxHeartbeats 4000000 in
set_option maxRecDepth 100000 in
theorem drawTes_any (R : Nat) (bs : List Int) (p : Nat) (w : World) (h : RdAt R bs w p) (hp : p ≤ 700000) :
    Calls Tryd.prog 64 #[.pointer (some ⟨R, 0, none⟩), .int .i64 0] w (DrawnTes R bs p w) := by
  have hR := h.lt
  obtain ⟨i0, hi, hy0, hy1, hy2⟩ := info_parts infoTe
  go_enter Tryd.func64, Tryd.ntmps64
  go_wp2_with fail
  refine (pick_any R bs p _ _ (h.below ((Below.refl _ _).alloc (Nat.le_refl _) _)) (by omega) (by omega)).mono ?_
  rintro e w1 ⟨x1, rfl, a1, b1, -, hr1, hm1⟩
  have hx1 := b1 (by omega)
  have hz1 := hm1.size; simp at hz1
  have hq1 : Mv R w.heap.size w w1 := ((Mv.refl _ _ _).alloc (Nat.le_refl _) _).trans (hm1.mono (by simp))
  have HO1 := Lib.hid (show OwnTd w.heap.size w1 (.slice (some ⟨w.heap.size, 0, none⟩) 0 0) [] from OwnSl.mvK (OwnTd.lit (Nat.le_refl _)) hm1 hR)
  go_wp2_with fail
  go_loopw [5, 6] (fun v i wr => ∃ ys k q, i = .int .i64 k ∧ k ≤ 3 ∧ 0 ≤ k ∧ Hid (OwnTd w.heap.size wr v ys) ∧ Hid ((ys.length : Int) + k ≤ 3) ∧ Hid (TeOk ys) ∧ RdAt R bs wr q ∧ (q : Int) + 101 * k ≤ p + 304 ∧ Mv R w.heap.size w wr) (fun _ i _ => (intOf i).toNat)
  case atStart => exact ⟨[], x1, p + 1, rfl, by omega, a1, HO1, Lib.hid (by simp; omega), Lib.hid (fun k x h => by simp at h), hr1, by omega, hq1⟩
  case round =>
    obtain ⟨ys, k, q, rfl, hk6, hk0, HO, HL, HI, hr, hq, hmr⟩ := hrel
    have hzr := hmr.size
    clear HO1 hr1 hm1 hq1 b1
    by_cases hk : 0 < k
    · go_wp2_with fail
      refine (drawTe_any R bs q _ hr (by omega)).mono ?_
      rintro e w2 ⟨f, lo, hi', nt, q2, rfl, hok, hr2, hq2, hm2⟩
      have hz2 := hm2.size
      have HO2 := Lib.hid (OwnSl.mvK HO.out hm2 hR)
      have HL2 := Lib.hid (show ys.length ≤ 3 by have := HL.out; omega)
      have HI2 := Lib.hid (HI.out.snoc (x := ⟨f, lo, hi', nt⟩) hok)
      clear hok
      go_wp2_with (at_builtin; refine wpList_append_own _ rfl _ _ 32 rfl w.heap.size 108 i0 _ 4 32 Tryd.underlying32 hi hy0 hy1 hy2 rfl (by decide) _ _ _ rfl (World.ownsRow.alloc HO2.out _) ⟨w2.heap.size, 0, none⟩ 1 1 (Te.enc ⟨f, lo, hi', nt⟩) rfl rfl (cellsNew w2 (Te.enc ⟨f, lo, hi', nt⟩) _) ?c2 ?c3 ?c4 ?c5 ?_)
      case c2 => simp [Value.oneCell']
      case c3 => have := HL2.out; simp only [maxLen]; omega
      case c4 => have := HL2.out; omega
      case c5 => simp; omega
      intro v' w5 hown5 hgrow5 _
      have hB5 : Below w.heap.size w2 w5 := belGrown ((Below.refl _ _).alloc (by omega) _) (World.ownsRow.alloc HO2.out _) hgrow5 (by simp; omega)
      have hr5 : RdAt R bs w5 q2 := hr2.up (hB5.mono (by omega))
      have hm5 : Mv R w.heap.size w w5 := (hmr.trans (hm2.mono hzr)).trans (Mv.of_below hB5)
      have HO5 := Lib.hid (OwnSl.pushed rfl hown5)
      clear hown5 hgrow5
      go_wp2
      go_roundw
      case rel => exact ⟨_, k - 1, q2, by go_num, by omega, by omega, HO5, Lib.hid (by have := HL.out; simp; omega), HI2, hr5, by omega, hm5⟩
      case measure => simp [intOf]; omega
    · obtain rfl : k = 0 := by omega
      go_wp2_with fail
      refine (odd_zero R _).mono ?_
      rintro e _ ⟨rfl, rfl⟩
      go_wp2
      go_ret
      exact ⟨_, ys, q, rfl, HO.out, by have := HL.out; omega, HI.out, hr, by omega, hmr⟩
def lenV : Value → Nat
  | .slice _ n _ => n
  | _ => 0
end Go.Proofs.YtfcbbahlhjdefaaDoor
