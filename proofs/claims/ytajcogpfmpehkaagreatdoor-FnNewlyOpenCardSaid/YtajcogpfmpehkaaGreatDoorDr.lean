/- Drawn ranges, sets, tests, boxes and rules without calls. -/
import Derived.Test.YtajcogpfmpehkaaGreatDoorRgX
import Derived.Test.YtajcogpfmpehkaaGreatDoorDrT
import Derived.Test.YtajcogpfmpehkaaGreatDoorDxAJ
import Derived.Test.YtajcogpfmpehkaaGreatDoorDt
import Derived.Test.YtajcogpfmpehkaaGreatDoorRdPk
import Derived.Test.YtajcogpfmpehkaaGreatDoorFnX
namespace Go.Proofs.YtajcogpfmpehkaaGreatDoor
open Go.RowKit
set_option maxHeartbeats 1000000 in
theorem odd_zero (R : Nat) (w : World) :
    Calls Tryz.prog 45 #[.pointer (some ⟨R, 0, none⟩), .int .i64 0] w fun e w' => e = .returned (.bool false) ∧ w = w' := by
  go_enter Tryz.func45, Tryz.ntmps45
  go_wp2
  go_ret
  exact ⟨rfl, rfl⟩
def DrawnSp (R : Nat) (bs : List Int) (p : Nat) (t : Int) (w : World) (e : Ending) (w' : World) : Prop :=
  ∃ (lo hi : Int) (q : Nat), e = .returned (.agg #[.int .i64 lo, .int .i64 hi]) ∧ 0 ≤ lo ∧ lo ≤ hi ∧ hi ≤ t ∧ RdAt R bs w' q ∧ q ≤ p + 50 ∧ Mv R w.heap.size w w'
/-- The drawn range in the making: the answer's block is the first new one, the variable's block is b. -/
structure SpAll (R : Nat) (bs : List Int) (w : World) (b : Nat) (wx : World) (q : Nat) (v0 v1 : Int) : Prop where
  rd : RdAt R bs wx q
  B : Two wx b v0 v1
  A : Two wx w.heap.size 0 0
  mv : Mv R w.heap.size w wx
  hR : R < w.heap.size
  hb : w.heap.size < b
theorem SpAll.mv' {R : Nat} {bs : List Int} {w : World} {b : Nat} {wx wy : World} {q q' : Nat} {v0 v1 : Int} (S : SpAll R bs w b wx q v0 v1) (hr : RdAt R bs wy q') (hm : Mv R wx.heap.size wx wy) : SpAll R bs w b wy q' v0 v1 :=
  ⟨hr, S.B.mv hm S.B.lt (by have := S.hR; have := S.hb; omega), S.A.mv hm S.A.lt (by have := S.hR; omega), S.mv.trans (hm.mono S.mv.size), S.hR, S.hb⟩
theorem SpAll.st {R : Nat} {bs : List Int} {w : World} {b : Nat} {wx : World} {q : Nat} {v0 v1 u0 u1 : Int} (S : SpAll R bs w b wx q v0 v1) {j : Nat} {v : Value} (hB : Two (wx.setCell ⟨b, j, none⟩ v) b u0 u1) : SpAll R bs w b (wx.setCell ⟨b, j, none⟩ v) q u0 u1 :=
  have hA : Below b wx (wx.setCell ⟨b, j, none⟩ v) := (Below.refl b wx).setCell (p := ⟨b, j, none⟩) (Nat.le_refl b) v
  have hlt := S.hb
  have hR := S.hR
  have hq := Mv.of_below (R := R) hA
  ⟨S.rd.up (hA.mono (by omega)), hB, S.A.mv hq hlt (by omega), S.mv.trans (hq.mono (by omega)), S.hR, S.hb⟩
set_option maxHeartbeats 4000000 in
set_option maxRecDepth 100000 in
theorem drawSp_big (R : Nat) (bs : List Int) (p : Nat) (w : World) (h : RdAt R bs w p) (hp : p ≤ 900000) :
    Calls Tryz.prog 94 #[.pointer (some ⟨R, 0, none⟩), .int .i64 65535, .int .i64 0] w (DrawnSp R bs p 65535 w) := by
  have hR := h.lt
  have hA0 := Two.new w 0 0 60
  have hr0 := h.below ((Below.refl _ _).alloc (Nat.le_refl _) (.cells #[.int .i64 0, .int .i64 0] 60))
  have hm0 : Mv R w.heap.size w (w.alloc (.cells #[.int .i64 0, .int .i64 0] 60)) := (Mv.refl _ _ _).alloc (Nat.le_refl _) _
  go_enter Tryz.func94, Tryz.ntmps94
  go_wp2_with fail
  refine (pick_any R bs p _ _ hr0 (by omega) (by omega)).mono ?_
  rintro e w1 ⟨x1, rfl, x10, x11, -, hr1, hm1⟩
  have hx1 := x11 (by omega)
  have hz1 := hm1.size; simp at hz1
  have hA1 := hA0.mv hm1 (by simp) (by omega)
  replace hm1 := hm0.trans (hm1.mono (by simp))
  have S : SpAll R bs w w1.heap.size (w1.alloc (.cells #[.int .i64 x1, .int .i64 0] 60)) _ x1 0 :=
    ⟨hr1.below ((Below.refl _ _).alloc (Nat.le_refl _) _), Two.new w1 _ _ _, hA1.old _, hm1.alloc (by omega) _, hR, by omega⟩
  clear hA0 hr0 hm0 x11 hA1 hm1 hr1
  go_wp2_with fail
  refine (pick_any R bs _ _ _ S.rd (by omega) (by omega)).mono ?_
  rintro e w2 ⟨x2, rfl, x20, x21, -, hr2, hm2⟩
  have hx2 := x21 (by omega)
  have hz2 := hm2.size; simp at hz2
  replace S := S.mv' hr2 hm2
  clear hr2 hm2 x21
  go_upto_if 20 with (fail)
  have ST := Lib.hid S
  clear S
  go_cut [] (fun wx => ∃ v q, SpAll R bs w w1.heap.size wx q v 0 ∧ 0 ≤ v ∧ v ≤ 65535 ∧ q ≤ p + 15)
  case first =>
    have S := ST.out
    by_cases hx : x2 = 0
    · subst hx
      obtain ⟨l0, c0, c1, cf⟩ := id S.B
      have hne : w1.heap.size ≠ R := by omega
      go_wp2_with fail
      refine wp_region_last (CM R bs _ 1 w2) (fun a b => Mv R a.heap.size a b) (bof [BIs (.int .i64 65535), BIs (.pointer (some ⟨w1.heap.size, 0, none⟩)), BIs (.int .i64 x1), BIs (.int .i64 (x1 * 256)), BIs (.pointer (some ⟨R, 0, none⟩)), BV (fun v => ∃ x : Int, v = .int .i64 x ∧ 0 ≤ x ∧ x < 256), BV (fun v => ∃ y, v = .int .i64 y ∧ 0 ≤ y ∧ y ≤ 65535), BV (fun v => ∃ y, v = .int .i64 y ∧ 0 ≤ y ∧ y ≤ 65535), BIs (.pointer (some ⟨w1.heap.size, 0, none⟩))]) (fun _ _ _ => True) (fun w9 => ∃ y wx q, SpAll R bs w w1.heap.size wx q x1 0 ∧ 0 ≤ y ∧ y ≤ 65535 ∧ q ≤ p + 15 ∧ w9 = wx.setCell ⟨w1.heap.size, 0, none⟩ (.int .i64 y)) 9 (by kernel_rfl) rfl (fun u => by simp only [frU, Act.put, List.setIfInBounds_toArray, List.set_cons_succ, List.set_cons_zero, Nat.zero_add, Nat.reduceAdd]; exact rfl) (by kernel_rfl) (by kernel_rfl) (fun iz wz wy vz hbz hz => bof_mst [BIs (.int .i64 65535), BIs (.pointer (some ⟨w1.heap.size, 0, none⟩)), BIs (.int .i64 x1), BIs (.int .i64 (x1 * 256)), BIs (.pointer (some ⟨R, 0, none⟩)), BV (fun v => ∃ x : Int, v = .int .i64 x ∧ 0 ≤ x ∧ x < 256), BV (fun v => ∃ y, v = .int .i64 y ∧ 0 ≤ y ∧ y ≤ 65535), BV (fun v => ∃ y, v = .int .i64 y ∧ 0 ≤ y ∧ y ≤ 65535), BIs (.pointer (some ⟨w1.heap.size, 0, none⟩))] ⟨mst_is _, mst_is _, mst_is _, mst_is _, mst_is _, mst_v _, mst_v _, mst_v _, mst_is _, trivial⟩ iz wz wy vz hbz hz) (CM.start S.rd) ?_ ?_; (exact ⟨stSm rfl (fun m u w3 hm hC hd Q K hK => by (go_step; exact hK _ _ rfl hC.same (Mv.refl _ _ _) rfl)), stSm rfl (fun m u w3 hm hC hd Q K hK => by (go_step; exact hK _ _ rfl hC.same (Mv.refl _ _ _) rfl)), stSm rfl (fun m u w3 hm hC hd Q K hK => by (have hu := bis (w := w3) (hd 1 rfl); rw [hu] at hK ⊢; clear hu; obtain ⟨q3, hr3, hq3, hM⟩ := id hC; have z0 := (mvC hM w1.heap.size l0 hne 0).trans c0; go_step; exact hK _ _ rfl hC.same (Mv.refl _ _ _) rfl)), stSm rfl (fun m u w3 hm hC hd Q K hK => by (have hu := bis (w := w3) (hd 2 rfl); rw [hu] at hK ⊢; clear hu; go_step; exact hK _ _ rfl hC.same (Mv.refl _ _ _) rfl)), stSm rfl (fun m u w3 hm hC hd Q K hK => by (go_step; exact hK _ _ rfl hC.same (Mv.refl _ _ _) rfl)), stSm rfl (fun m u w3 hm hC hd Q K hK => by (have hu := bis (w := w3) (hd 4 rfl); rw [hu] at hK ⊢; clear hu; obtain ⟨q3, hr3, hq3, hM⟩ := id hC; go_step; refine (pick_any R _ _ _ _ hr3 (by omega) (by omega)).mono ?_; rintro e w4 ⟨x, rfl, hx0, hx1, hx2, hr4, hm4⟩; exact hK _ _ rfl (hC.mv hr4 (by omega) hm4) hm4 ⟨x, rfl, hx0, hx1 (by omega)⟩)), stSm rfl (fun m u w3 hm hC hd Q K hK => by (have hu := bis (w := w3) (hd 3 rfl); rw [hu] at hK ⊢; clear hu; obtain ⟨x, hu, hx0, hx1⟩ := hd 5 rfl; rw [hu] at hK ⊢; clear hu; go_step; exact hK _ _ rfl hC.same (Mv.refl _ _ _) ⟨_, rfl, by omega, by omega⟩)), stSm rfl (fun m u w3 hm hC hd Q K hK => by (have hu := bis (w := w3) (hd 0 rfl); rw [hu] at hK ⊢; clear hu; obtain ⟨y, hu, hy0, hy1⟩ := hd 6 rfl; rw [hu] at hK ⊢; clear hu; go_step; exact hK _ _ rfl hC.same (Mv.refl _ _ _) ⟨_, rfl, by omega, by omega⟩)), stSm rfl (fun m u w3 hm hC hd Q K hK => by (go_step; exact hK _ _ rfl hC.same (Mv.refl _ _ _) rfl)), ⟨rfl, fun m u w3 hm hC hF Q K hK => by (dsimp only at hK ⊢; have hu := bis (w := w3) (hF 8 (by decide)); rw [hu] at hK ⊢; clear hu; obtain ⟨y, hu, hy0, hy1⟩ := hF 7 (by decide); rw [hu] at hK ⊢; clear hu; obtain ⟨q3, hr3, hq3, hM⟩ := id hC; have z0 := (mvC hM w1.heap.size l0 hne 0).trans c0; have z1 := (mvF hM w1.heap.size l0 hne 0).trans (cf 0);  go_step; exact hK _ _ rfl ⟨y, w3, q3, S.mv' hr3 hM, hy0, hy1, by omega, rfl⟩ (fun _ _ => trivial))⟩⟩); intro u w9 hD _
      obtain ⟨y, wx, q, S, hy0, hy1, hq, rfl⟩ := hD
      go_wp2_with fail
      go_meet
      exact ⟨y, q, S.st (S.B.set0 y), hy0, hy1, hq⟩
    · have hx' : (x2 == 0) = false := by simpa using hx
      go_wp2_with fail
      go_meet
      exact ⟨_, _, S, by omega, by omega, by omega⟩
  case rest =>
    clear ST
    obtain ⟨v0, q, S, hv0, hv1, hq⟩ := hcut
    obtain ⟨l0, c0, c1, cf⟩ := id S.B
    have hne : w1.heap.size ≠ R := by omega
    obtain ⟨wx, rfl⟩ := nameMv S.mv
    go_upto_region 4 with (fail)
    refine wp_region_last (CM R bs _ 1 wx) (fun a b => Mv R a.heap.size a b) (bof [BIs (.int .i64 65535), BIs (.pointer (some ⟨w1.heap.size, 0, none⟩)), BIs (.int .i64 v0), BIs (.pointer (some ⟨R, 0, none⟩)), BV (fun v => ∃ x : Int, v = .int .i64 x ∧ 0 ≤ x ∧ x < 4), BIs (.pointer (some ⟨R, 0, none⟩)), BV (fun v => ∃ x : Int, v = .int .i64 x ∧ 0 ≤ x ∧ x < 256), FLt R 4 (0) (4096), BIs (.pointer (some ⟨R, 0, none⟩)), BV (fun v => ∃ x : Int, v = .int .i64 x ∧ 0 ≤ x ∧ x < 4), FAd R (0) (4096), BV (fun v => ∃ x : Int, v = .int .i64 x ∧ (0) ≤ x ∧ x ≤ (4096)), BV (fun v => ∃ y, v = .int .i64 y ∧ v0 ≤ y ∧ y ≤ 65535 + 4096), BV (fun v => ∃ y, v = .int .i64 y ∧ v0 ≤ y ∧ y ≤ 65535), BIs (.pointer (some ⟨w1.heap.size, 1, none⟩))]) (fun _ _ _ => True) (fun w9 => ∃ y wy q, SpAll R bs w w1.heap.size wy q v0 0 ∧ v0 ≤ y ∧ y ≤ 65535 ∧ q ≤ p + 32 ∧ w9 = wy.setCell ⟨w1.heap.size, 1, none⟩ (.int .i64 y)) 15 (by kernel_rfl) rfl (fun u => by simp only [frU, Act.put, List.setIfInBounds_toArray, List.set_cons_succ, List.set_cons_zero, Nat.zero_add, Nat.reduceAdd]; exact rfl) (by kernel_rfl) (by kernel_rfl) (fun iz wz wy vz hbz hz => bof_mst [BIs (.int .i64 65535), BIs (.pointer (some ⟨w1.heap.size, 0, none⟩)), BIs (.int .i64 v0), BIs (.pointer (some ⟨R, 0, none⟩)), BV (fun v => ∃ x : Int, v = .int .i64 x ∧ 0 ≤ x ∧ x < 4), BIs (.pointer (some ⟨R, 0, none⟩)), BV (fun v => ∃ x : Int, v = .int .i64 x ∧ 0 ≤ x ∧ x < 256), FLt R 4 (0) (4096), BIs (.pointer (some ⟨R, 0, none⟩)), BV (fun v => ∃ x : Int, v = .int .i64 x ∧ 0 ≤ x ∧ x < 4), FAd R (0) (4096), BV (fun v => ∃ x : Int, v = .int .i64 x ∧ (0) ≤ x ∧ x ≤ (4096)), BV (fun v => ∃ y, v = .int .i64 y ∧ v0 ≤ y ∧ y ≤ 65535 + 4096), BV (fun v => ∃ y, v = .int .i64 y ∧ v0 ≤ y ∧ y ≤ 65535), BIs (.pointer (some ⟨w1.heap.size, 1, none⟩))] ⟨mst_is _, mst_is _, mst_is _, mst_is _, mst_v _, mst_is _, mst_v _, mst_lt, mst_is _, mst_v _, mst_ad, mst_v _, mst_v _, mst_v _, mst_is _, trivial⟩ iz wz wy vz hbz hz) (CM.start S.rd) ?_ ?_; (exact ⟨stSm rfl (fun m u w3 hm hC hd Q K hK => by (go_step; exact hK _ _ rfl hC.same (Mv.refl _ _ _) rfl)), stSm rfl (fun m u w3 hm hC hd Q K hK => by (go_step; exact hK _ _ rfl hC.same (Mv.refl _ _ _) rfl)), stSm rfl (fun m u w3 hm hC hd Q K hK => by (have hu := bis (w := w3) (hd 1 rfl); rw [hu] at hK ⊢; clear hu; obtain ⟨q3, hr3, hq3, hM⟩ := id hC; have z0 := (mvC hM w1.heap.size l0 hne 0).trans c0; go_step; exact hK _ _ rfl hC.same (Mv.refl _ _ _) rfl)), stSm rfl (fun m u w3 hm hC hd Q K hK => by (go_step; exact hK _ _ rfl hC.same (Mv.refl _ _ _) rfl)), stSm rfl (fun m u w3 hm hC hd Q K hK => by (have hu := bis (w := w3) (hd 3 rfl); rw [hu] at hK ⊢; clear hu; obtain ⟨q3, hr3, hq3, hM⟩ := id hC; go_step; refine (pick_any R _ _ _ _ hr3 (by omega) (by omega)).mono ?_; rintro e w4 ⟨x, rfl, hx0, hx1, hx2, hr4, hm4⟩; exact hK _ _ rfl (hC.mv hr4 (by omega) hm4) hm4 ⟨x, rfl, hx0, hx1 (by omega)⟩)), stSm rfl (fun m u w3 hm hC hd Q K hK => by (go_step; exact hK _ _ rfl hC.same (Mv.refl _ _ _) rfl)), stSm rfl (fun m u w3 hm hC hd Q K hK => by (have hu := bis (w := w3) (hd 5 rfl); rw [hu] at hK ⊢; clear hu; obtain ⟨q3, hr3, hq3, hM⟩ := id hC; go_step; refine (pick_any R _ _ _ _ hr3 (by omega) (by omega)).mono ?_; rintro e w4 ⟨x, rfl, hx0, hx1, hx2, hr4, hm4⟩; exact hK _ _ rfl (hC.mv hr4 (by omega) hm4) hm4 ⟨x, rfl, hx0, hx1 (by omega)⟩)), stSm rfl (fun m u w3 hm hC hd Q K hK => by (obtain ⟨x, hu, hx0, hx1⟩ := hd 4 rfl; rw [hu] at hK ⊢; clear hu; obtain ⟨y, hu, hy0, hy1⟩ := hd 6 rfl; rw [hu] at hK ⊢; clear hu; obtain ⟨q3, hr3, hq3, hM⟩ := id hC; go_step; have hal3 := fun o => (Below.refl w3.heap.size w3).alloc (Nat.le_refl _) o; have hlt3 := hr3.lt; refine hK _ _ rfl (hC.below (hal3 _)) (Mv.of_below (hal3 _)) ⟨_, rfl, by simp, by omega, fun j hj => ?_⟩; match j, hj with | 0, _ => exact ⟨_, by simp; try rfl, by omega, by omega⟩ | 1, _ => exact ⟨_, by simp; try rfl, by omega, by omega⟩ | 2, _ => exact ⟨_, by simp; try rfl, by omega, by omega⟩ | 3, _ => exact ⟨_, by simp; try rfl, by omega, by omega⟩ | j + 4, hj => exact absurd hj (by omega))), stSm rfl (fun m u w3 hm hC hd Q K hK => by (go_step; exact hK _ _ rfl hC.same (Mv.refl _ _ _) rfl)), stSm rfl (fun m u w3 hm hC hd Q K hK => by (have hu := bis (w := w3) (hd 8 rfl); rw [hu] at hK ⊢; clear hu; obtain ⟨q3, hr3, hq3, hM⟩ := id hC; go_step; refine (pick_any R _ _ _ _ hr3 (by omega) (by omega)).mono ?_; rintro e w4 ⟨x, rfl, hx0, hx1, hx2, hr4, hm4⟩; exact hK _ _ rfl (hC.mv hr4 (by omega) hm4) hm4 ⟨x, rfl, hx0, hx1 (by omega)⟩)), stSm rfl (fun m u w3 hm hC hd Q K hK => by (obtain ⟨x, hu, hx0, hx1⟩ := hd 9 rfl; rw [hu] at hK ⊢; clear hu; obtain ⟨nx, rfl⟩ := Int.eq_ofNat_of_zero_le hx0; obtain ⟨b, hu, hb1, hb2, hbc⟩ := hd 7 rfl; rw [hu] at hK ⊢; clear hu; go_step; refine hK _ _ rfl hC.same (Mv.refl _ _ _) ⟨b, _, rfl, hb1, hb2, ?_⟩; (try simp only [Nat.zero_add, Nat.mul_one, Nat.add_zero]); exact hbc nx (by omega))), stSm rfl (fun m u w3 hm hC hd Q K hK => by (obtain ⟨b, o, hu, hb1, hb2, x, hbc, hx0, hx1⟩ := hd 10 rfl; rw [hu] at hK ⊢; clear hu; go_step; exact hK _ _ rfl hC.same (Mv.refl _ _ _) ⟨x, rfl, hx0, hx1⟩)), stSm rfl (fun m u w3 hm hC hd Q K hK => by (have hu := bis (w := w3) (hd 2 rfl); rw [hu] at hK ⊢; clear hu; obtain ⟨x, hu, hx0, hx1⟩ := hd 11 rfl; rw [hu] at hK ⊢; clear hu; go_step; exact hK _ _ rfl hC.same (Mv.refl _ _ _) ⟨_, rfl, by omega, by omega⟩)), stSm rfl (fun m u w3 hm hC hd Q K hK => by (have hu := bis (w := w3) (hd 0 rfl); rw [hu] at hK ⊢; clear hu; obtain ⟨y, hu, hy0, hy1⟩ := hd 12 rfl; rw [hu] at hK ⊢; clear hu; go_step; exact hK _ _ rfl hC.same (Mv.refl _ _ _) ⟨_, rfl, by omega, by omega⟩)), stSm rfl (fun m u w3 hm hC hd Q K hK => by (go_step; exact hK _ _ rfl hC.same (Mv.refl _ _ _) rfl)), ⟨rfl, fun m u w3 hm hC hF Q K hK => by (dsimp only at hK ⊢; have hu := bis (w := w3) (hF 14 (by decide)); rw [hu] at hK ⊢; clear hu; obtain ⟨y, hu, hy0, hy1⟩ := hF 13 (by decide); rw [hu] at hK ⊢; clear hu; obtain ⟨q3, hr3, hq3, hM⟩ := id hC; have z0 := (mvC hM w1.heap.size l0 hne 1).trans c1; have z1 := (mvF hM w1.heap.size l0 hne 1).trans (cf 1);  go_step; exact hK _ _ rfl ⟨y, w3, q3, S.mv' hr3 hM, hy0, hy1, by omega, rfl⟩ (fun _ _ => trivial))⟩⟩); intro u w9 hD _
    obtain ⟨y, wy, q', S, hy0, hy1, hq, rfl⟩ := hD
    replace S := S.st (S.B.set1 y)
    go_wp2_with fail
    refine (odd_zero R _).mono ?_
    rintro e _ ⟨rfl, rfl⟩
    obtain ⟨wz, hwz⟩ : ∃ wz, wy.setCell ⟨w1.heap.size, 1, none⟩ (.int .i64 y) = wz := ⟨_, rfl⟩
    rw [hwz] at S ⊢
    clear hwz
    obtain ⟨m0, c0, c1, cf⟩ := id S.B
    obtain ⟨n0, d0, d1, df⟩ := id S.A
    have hbb := S.hb
    have hrd := Lib.hid S.rd
    have hMV := Lib.hid S.mv
    clear S
    go_wp2_with fail
    exact bodyPost_ret (v := .agg #[.int .i64 v0, .int .i64 y]) (by simp [results, Tryz.results94, go_sem, d0, d1]) rfl ⟨v0, y, _, rfl, hv0, hy0, hy1, hrd.out.up (by (repeat' (first | with_reducible exact Below.refl _ _ | with_reducible assumption | with_reducible refine Below.setCell ?_ ?_ _ | with_reducible refine Below.alloc ?_ ?_ _ | with_reducible refine Below.drew ?_ | with_reducible refine belDrewN ?_ _ | with_reducible refine Below.trans ?_ (Below.mono (by assumption) ?_) | omega | (simp; omega) | (simp; done)))), by omega, (hMV.out.setCell (by simp) _).setCell (by simp) _⟩
set_option maxHeartbeats 4000000 in
set_option maxRecDepth 100000 in
theorem drawSp_small (R : Nat) (bs : List Int) (p : Nat) (w : World) (h : RdAt R bs w p) (hp : p ≤ 900000) :
    Calls Tryz.prog 94 #[.pointer (some ⟨R, 0, none⟩), .int .i64 255, .int .i64 0] w (DrawnSp R bs p 255 w) := by
  have hR := h.lt
  have hA0 := Two.new w 0 0 60
  have hr0 := h.below ((Below.refl _ _).alloc (Nat.le_refl _) (.cells #[.int .i64 0, .int .i64 0] 60))
  have hm0 : Mv R w.heap.size w (w.alloc (.cells #[.int .i64 0, .int .i64 0] 60)) := (Mv.refl _ _ _).alloc (Nat.le_refl _) _
  go_enter Tryz.func94, Tryz.ntmps94
  go_wp2_with fail
  refine (pick_any R bs p _ _ hr0 (by omega) (by omega)).mono ?_
  rintro e w1 ⟨x1, rfl, x10, x11, -, hr1, hm1⟩
  have hx1 := x11 (by omega)
  have hz1 := hm1.size; simp at hz1
  have hA1 := hA0.mv hm1 (by simp) (by omega)
  replace hm1 := hm0.trans (hm1.mono (by simp))
  have S : SpAll R bs w w1.heap.size (w1.alloc (.cells #[.int .i64 x1, .int .i64 0] 60)) _ x1 0 :=
    ⟨hr1.below ((Below.refl _ _).alloc (Nat.le_refl _) _), Two.new w1 _ _ _, hA1.old _, hm1.alloc (by omega) _, hR, by omega⟩
  clear hA0 hr0 hm0 x11 hA1 hm1 hr1
  obtain ⟨v0, hv0', hv0, hv1⟩ : ∃ v0, v0 = x1 ∧ 0 ≤ v0 ∧ v0 ≤ 255 := ⟨x1, rfl, by omega, by omega⟩
  rw [← hv0'] at S
  rw [← hv0']
  clear hv0' x10 hx1
  obtain ⟨l0, c0, c1, cf⟩ := id S.B
  have hne : w1.heap.size ≠ R := by omega
  go_upto_region 4 with (fail)
  obtain ⟨wx, hwx⟩ : ∃ wx, w1.alloc (.cells #[.int .i64 v0, .int .i64 0] 60) = wx := ⟨_, rfl⟩
  rw [hwx] at S l0 c0 c1 cf ⊢
  refine wp_region_last (CM R bs _ 1 wx) (fun a b => Mv R a.heap.size a b) (bof [BIs (.int .i64 255), BIs (.pointer (some ⟨w1.heap.size, 0, none⟩)), BIs (.int .i64 v0), BIs (.pointer (some ⟨R, 0, none⟩)), BV (fun v => ∃ x : Int, v = .int .i64 x ∧ 0 ≤ x ∧ x < 4), BIs (.pointer (some ⟨R, 0, none⟩)), BV (fun v => ∃ x : Int, v = .int .i64 x ∧ 0 ≤ x ∧ x < 256), FLt R 4 (0) (4096), BIs (.pointer (some ⟨R, 0, none⟩)), BV (fun v => ∃ x : Int, v = .int .i64 x ∧ 0 ≤ x ∧ x < 4), FAd R (0) (4096), BV (fun v => ∃ x : Int, v = .int .i64 x ∧ (0) ≤ x ∧ x ≤ (4096)), BV (fun v => ∃ y, v = .int .i64 y ∧ v0 ≤ y ∧ y ≤ 255 + 4096), BV (fun v => ∃ y, v = .int .i64 y ∧ v0 ≤ y ∧ y ≤ 255), BIs (.pointer (some ⟨w1.heap.size, 1, none⟩))]) (fun _ _ _ => True) (fun w9 => ∃ y wy q, SpAll R bs w w1.heap.size wy q v0 0 ∧ v0 ≤ y ∧ y ≤ 255 ∧ q ≤ p + 32 ∧ w9 = wy.setCell ⟨w1.heap.size, 1, none⟩ (.int .i64 y)) 15 (by kernel_rfl) rfl (fun u => by simp only [frU, Act.put, List.setIfInBounds_toArray, List.set_cons_succ, List.set_cons_zero, Nat.zero_add, Nat.reduceAdd]; exact rfl) (by kernel_rfl) (by kernel_rfl) (fun iz wz wy vz hbz hz => bof_mst [BIs (.int .i64 255), BIs (.pointer (some ⟨w1.heap.size, 0, none⟩)), BIs (.int .i64 v0), BIs (.pointer (some ⟨R, 0, none⟩)), BV (fun v => ∃ x : Int, v = .int .i64 x ∧ 0 ≤ x ∧ x < 4), BIs (.pointer (some ⟨R, 0, none⟩)), BV (fun v => ∃ x : Int, v = .int .i64 x ∧ 0 ≤ x ∧ x < 256), FLt R 4 (0) (4096), BIs (.pointer (some ⟨R, 0, none⟩)), BV (fun v => ∃ x : Int, v = .int .i64 x ∧ 0 ≤ x ∧ x < 4), FAd R (0) (4096), BV (fun v => ∃ x : Int, v = .int .i64 x ∧ (0) ≤ x ∧ x ≤ (4096)), BV (fun v => ∃ y, v = .int .i64 y ∧ v0 ≤ y ∧ y ≤ 255 + 4096), BV (fun v => ∃ y, v = .int .i64 y ∧ v0 ≤ y ∧ y ≤ 255), BIs (.pointer (some ⟨w1.heap.size, 1, none⟩))] ⟨mst_is _, mst_is _, mst_is _, mst_is _, mst_v _, mst_is _, mst_v _, mst_lt, mst_is _, mst_v _, mst_ad, mst_v _, mst_v _, mst_v _, mst_is _, trivial⟩ iz wz wy vz hbz hz) (CM.start S.rd) ?_ ?_; (exact ⟨stSm rfl (fun m u w3 hm hC hd Q K hK => by (go_step; exact hK _ _ rfl hC.same (Mv.refl _ _ _) rfl)), stSm rfl (fun m u w3 hm hC hd Q K hK => by (go_step; exact hK _ _ rfl hC.same (Mv.refl _ _ _) rfl)), stSm rfl (fun m u w3 hm hC hd Q K hK => by (have hu := bis (w := w3) (hd 1 rfl); rw [hu] at hK ⊢; clear hu; obtain ⟨q3, hr3, hq3, hM⟩ := id hC; have z0 := (mvC hM w1.heap.size l0 hne 0).trans c0; go_step; exact hK _ _ rfl hC.same (Mv.refl _ _ _) rfl)), stSm rfl (fun m u w3 hm hC hd Q K hK => by (go_step; exact hK _ _ rfl hC.same (Mv.refl _ _ _) rfl)), stSm rfl (fun m u w3 hm hC hd Q K hK => by (have hu := bis (w := w3) (hd 3 rfl); rw [hu] at hK ⊢; clear hu; obtain ⟨q3, hr3, hq3, hM⟩ := id hC; go_step; refine (pick_any R _ _ _ _ hr3 (by omega) (by omega)).mono ?_; rintro e w4 ⟨x, rfl, hx0, hx1, hx2, hr4, hm4⟩; exact hK _ _ rfl (hC.mv hr4 (by omega) hm4) hm4 ⟨x, rfl, hx0, hx1 (by omega)⟩)), stSm rfl (fun m u w3 hm hC hd Q K hK => by (go_step; exact hK _ _ rfl hC.same (Mv.refl _ _ _) rfl)), stSm rfl (fun m u w3 hm hC hd Q K hK => by (have hu := bis (w := w3) (hd 5 rfl); rw [hu] at hK ⊢; clear hu; obtain ⟨q3, hr3, hq3, hM⟩ := id hC; go_step; refine (pick_any R _ _ _ _ hr3 (by omega) (by omega)).mono ?_; rintro e w4 ⟨x, rfl, hx0, hx1, hx2, hr4, hm4⟩; exact hK _ _ rfl (hC.mv hr4 (by omega) hm4) hm4 ⟨x, rfl, hx0, hx1 (by omega)⟩)), stSm rfl (fun m u w3 hm hC hd Q K hK => by (obtain ⟨x, hu, hx0, hx1⟩ := hd 4 rfl; rw [hu] at hK ⊢; clear hu; obtain ⟨y, hu, hy0, hy1⟩ := hd 6 rfl; rw [hu] at hK ⊢; clear hu; obtain ⟨q3, hr3, hq3, hM⟩ := id hC; go_step; have hal3 := fun o => (Below.refl w3.heap.size w3).alloc (Nat.le_refl _) o; have hlt3 := hr3.lt; refine hK _ _ rfl (hC.below (hal3 _)) (Mv.of_below (hal3 _)) ⟨_, rfl, by simp, by omega, fun j hj => ?_⟩; match j, hj with | 0, _ => exact ⟨_, by simp; try rfl, by omega, by omega⟩ | 1, _ => exact ⟨_, by simp; try rfl, by omega, by omega⟩ | 2, _ => exact ⟨_, by simp; try rfl, by omega, by omega⟩ | 3, _ => exact ⟨_, by simp; try rfl, by omega, by omega⟩ | j + 4, hj => exact absurd hj (by omega))), stSm rfl (fun m u w3 hm hC hd Q K hK => by (go_step; exact hK _ _ rfl hC.same (Mv.refl _ _ _) rfl)), stSm rfl (fun m u w3 hm hC hd Q K hK => by (have hu := bis (w := w3) (hd 8 rfl); rw [hu] at hK ⊢; clear hu; obtain ⟨q3, hr3, hq3, hM⟩ := id hC; go_step; refine (pick_any R _ _ _ _ hr3 (by omega) (by omega)).mono ?_; rintro e w4 ⟨x, rfl, hx0, hx1, hx2, hr4, hm4⟩; exact hK _ _ rfl (hC.mv hr4 (by omega) hm4) hm4 ⟨x, rfl, hx0, hx1 (by omega)⟩)), stSm rfl (fun m u w3 hm hC hd Q K hK => by (obtain ⟨x, hu, hx0, hx1⟩ := hd 9 rfl; rw [hu] at hK ⊢; clear hu; obtain ⟨nx, rfl⟩ := Int.eq_ofNat_of_zero_le hx0; obtain ⟨b, hu, hb1, hb2, hbc⟩ := hd 7 rfl; rw [hu] at hK ⊢; clear hu; go_step; refine hK _ _ rfl hC.same (Mv.refl _ _ _) ⟨b, _, rfl, hb1, hb2, ?_⟩; (try simp only [Nat.zero_add, Nat.mul_one, Nat.add_zero]); exact hbc nx (by omega))), stSm rfl (fun m u w3 hm hC hd Q K hK => by (obtain ⟨b, o, hu, hb1, hb2, x, hbc, hx0, hx1⟩ := hd 10 rfl; rw [hu] at hK ⊢; clear hu; go_step; exact hK _ _ rfl hC.same (Mv.refl _ _ _) ⟨x, rfl, hx0, hx1⟩)), stSm rfl (fun m u w3 hm hC hd Q K hK => by (have hu := bis (w := w3) (hd 2 rfl); rw [hu] at hK ⊢; clear hu; obtain ⟨x, hu, hx0, hx1⟩ := hd 11 rfl; rw [hu] at hK ⊢; clear hu; go_step; exact hK _ _ rfl hC.same (Mv.refl _ _ _) ⟨_, rfl, by omega, by omega⟩)), stSm rfl (fun m u w3 hm hC hd Q K hK => by (have hu := bis (w := w3) (hd 0 rfl); rw [hu] at hK ⊢; clear hu; obtain ⟨y, hu, hy0, hy1⟩ := hd 12 rfl; rw [hu] at hK ⊢; clear hu; go_step; exact hK _ _ rfl hC.same (Mv.refl _ _ _) ⟨_, rfl, by omega, by omega⟩)), stSm rfl (fun m u w3 hm hC hd Q K hK => by (go_step; exact hK _ _ rfl hC.same (Mv.refl _ _ _) rfl)), ⟨rfl, fun m u w3 hm hC hF Q K hK => by (dsimp only at hK ⊢; have hu := bis (w := w3) (hF 14 (by decide)); rw [hu] at hK ⊢; clear hu; obtain ⟨y, hu, hy0, hy1⟩ := hF 13 (by decide); rw [hu] at hK ⊢; clear hu; obtain ⟨q3, hr3, hq3, hM⟩ := id hC; have z0 := (mvC hM w1.heap.size l0 hne 1).trans c1; have z1 := (mvF hM w1.heap.size l0 hne 1).trans (cf 1);  go_step; exact hK _ _ rfl ⟨y, w3, q3, S.mv' hr3 hM, hy0, hy1, by omega, rfl⟩ (fun _ _ => trivial))⟩⟩); intro u w9 hD _
  obtain ⟨y, wy, q', S, hy0, hy1, hq, rfl⟩ := hD
  replace S := S.st (S.B.set1 y)
  go_wp2_with fail
  refine (odd_zero R _).mono ?_
  rintro e _ ⟨rfl, rfl⟩
  obtain ⟨wz, hwz⟩ : ∃ wz, wy.setCell ⟨w1.heap.size, 1, none⟩ (.int .i64 y) = wz := ⟨_, rfl⟩
  rw [hwz] at S ⊢
  clear hwz
  obtain ⟨m0, c0, c1, cf⟩ := id S.B
  obtain ⟨n0, d0, d1, df⟩ := id S.A
  have hbb := S.hb
  have hrd := Lib.hid S.rd
  have hMV := Lib.hid S.mv
  clear S
  go_wp2_with fail
  exact bodyPost_ret (v := .agg #[.int .i64 v0, .int .i64 y]) (by simp [results, Tryz.results94, go_sem, d0, d1]) rfl ⟨v0, y, _, rfl, hv0, hy0, hy1, hrd.out.up (by (repeat' (first | with_reducible exact Below.refl _ _ | with_reducible assumption | with_reducible refine Below.setCell ?_ ?_ _ | with_reducible refine Below.alloc ?_ ?_ _ | with_reducible refine Below.drew ?_ | with_reducible refine belDrewN ?_ _ | with_reducible refine Below.trans ?_ (Below.mono (by assumption) ?_) | omega | (simp; omega) | (simp; done)))), by omega, (hMV.out.setCell (by simp) _).setCell (by simp) _⟩
set_option maxHeartbeats 4000000 in
set_option maxRecDepth 100000 in
theorem drawSp_seven (R : Nat) (bs : List Int) (p : Nat) (w : World) (h : RdAt R bs w p) (hp : p ≤ 900000) :
    Calls Tryz.prog 94 #[.pointer (some ⟨R, 0, none⟩), .int .i64 7, .int .i64 0] w (DrawnSp R bs p 7 w) := by
  have hR := h.lt
  have hA0 := Two.new w 0 0 60
  have hr0 := h.below ((Below.refl _ _).alloc (Nat.le_refl _) (.cells #[.int .i64 0, .int .i64 0] 60))
  have hm0 : Mv R w.heap.size w (w.alloc (.cells #[.int .i64 0, .int .i64 0] 60)) := (Mv.refl _ _ _).alloc (Nat.le_refl _) _
  go_enter Tryz.func94, Tryz.ntmps94
  go_wp2_with fail
  refine (pick_any R bs p _ _ hr0 (by omega) (by omega)).mono ?_
  rintro e w1 ⟨x1, rfl, x10, x11, -, hr1, hm1⟩
  have hx1 := x11 (by omega)
  have hz1 := hm1.size; simp at hz1
  have hA1 := hA0.mv hm1 (by simp) (by omega)
  replace hm1 := hm0.trans (hm1.mono (by simp))
  have S : SpAll R bs w w1.heap.size (w1.alloc (.cells #[.int .i64 x1, .int .i64 0] 60)) _ x1 0 :=
    ⟨hr1.below ((Below.refl _ _).alloc (Nat.le_refl _) _), Two.new w1 _ _ _, hA1.old _, hm1.alloc (by omega) _, hR, by omega⟩
  clear hA0 hr0 hm0 x11 hA1 hm1 hr1
  obtain ⟨v0, hv0', hv0, hv1⟩ : ∃ v0, v0 = x1 ∧ 0 ≤ v0 ∧ v0 ≤ 7 := ⟨x1, rfl, by omega, by omega⟩
  rw [← hv0'] at S
  rw [← hv0']
  clear hv0' x10 hx1
  obtain ⟨l0, c0, c1, cf⟩ := id S.B
  have hne : w1.heap.size ≠ R := by omega
  go_upto_region 4 with (fail)
  obtain ⟨wx, hwx⟩ : ∃ wx, w1.alloc (.cells #[.int .i64 v0, .int .i64 0] 60) = wx := ⟨_, rfl⟩
  rw [hwx] at S l0 c0 c1 cf ⊢
  refine wp_region_last (CM R bs _ 1 wx) (fun a b => Mv R a.heap.size a b) (bof [BIs (.int .i64 7), BIs (.pointer (some ⟨w1.heap.size, 0, none⟩)), BIs (.int .i64 v0), BIs (.pointer (some ⟨R, 0, none⟩)), BV (fun v => ∃ x : Int, v = .int .i64 x ∧ 0 ≤ x ∧ x < 4), BIs (.pointer (some ⟨R, 0, none⟩)), BV (fun v => ∃ x : Int, v = .int .i64 x ∧ 0 ≤ x ∧ x < 256), FLt R 4 (0) (4096), BIs (.pointer (some ⟨R, 0, none⟩)), BV (fun v => ∃ x : Int, v = .int .i64 x ∧ 0 ≤ x ∧ x < 4), FAd R (0) (4096), BV (fun v => ∃ x : Int, v = .int .i64 x ∧ (0) ≤ x ∧ x ≤ (4096)), BV (fun v => ∃ y, v = .int .i64 y ∧ v0 ≤ y ∧ y ≤ 7 + 4096), BV (fun v => ∃ y, v = .int .i64 y ∧ v0 ≤ y ∧ y ≤ 7), BIs (.pointer (some ⟨w1.heap.size, 1, none⟩))]) (fun _ _ _ => True) (fun w9 => ∃ y wy q, SpAll R bs w w1.heap.size wy q v0 0 ∧ v0 ≤ y ∧ y ≤ 7 ∧ q ≤ p + 32 ∧ w9 = wy.setCell ⟨w1.heap.size, 1, none⟩ (.int .i64 y)) 15 (by kernel_rfl) rfl (fun u => by simp only [frU, Act.put, List.setIfInBounds_toArray, List.set_cons_succ, List.set_cons_zero, Nat.zero_add, Nat.reduceAdd]; exact rfl) (by kernel_rfl) (by kernel_rfl) (fun iz wz wy vz hbz hz => bof_mst [BIs (.int .i64 7), BIs (.pointer (some ⟨w1.heap.size, 0, none⟩)), BIs (.int .i64 v0), BIs (.pointer (some ⟨R, 0, none⟩)), BV (fun v => ∃ x : Int, v = .int .i64 x ∧ 0 ≤ x ∧ x < 4), BIs (.pointer (some ⟨R, 0, none⟩)), BV (fun v => ∃ x : Int, v = .int .i64 x ∧ 0 ≤ x ∧ x < 256), FLt R 4 (0) (4096), BIs (.pointer (some ⟨R, 0, none⟩)), BV (fun v => ∃ x : Int, v = .int .i64 x ∧ 0 ≤ x ∧ x < 4), FAd R (0) (4096), BV (fun v => ∃ x : Int, v = .int .i64 x ∧ (0) ≤ x ∧ x ≤ (4096)), BV (fun v => ∃ y, v = .int .i64 y ∧ v0 ≤ y ∧ y ≤ 7 + 4096), BV (fun v => ∃ y, v = .int .i64 y ∧ v0 ≤ y ∧ y ≤ 7), BIs (.pointer (some ⟨w1.heap.size, 1, none⟩))] ⟨mst_is _, mst_is _, mst_is _, mst_is _, mst_v _, mst_is _, mst_v _, mst_lt, mst_is _, mst_v _, mst_ad, mst_v _, mst_v _, mst_v _, mst_is _, trivial⟩ iz wz wy vz hbz hz) (CM.start S.rd) ?_ ?_; (exact ⟨stSm rfl (fun m u w3 hm hC hd Q K hK => by (go_step; exact hK _ _ rfl hC.same (Mv.refl _ _ _) rfl)), stSm rfl (fun m u w3 hm hC hd Q K hK => by (go_step; exact hK _ _ rfl hC.same (Mv.refl _ _ _) rfl)), stSm rfl (fun m u w3 hm hC hd Q K hK => by (have hu := bis (w := w3) (hd 1 rfl); rw [hu] at hK ⊢; clear hu; obtain ⟨q3, hr3, hq3, hM⟩ := id hC; have z0 := (mvC hM w1.heap.size l0 hne 0).trans c0; go_step; exact hK _ _ rfl hC.same (Mv.refl _ _ _) rfl)), stSm rfl (fun m u w3 hm hC hd Q K hK => by (go_step; exact hK _ _ rfl hC.same (Mv.refl _ _ _) rfl)), stSm rfl (fun m u w3 hm hC hd Q K hK => by (have hu := bis (w := w3) (hd 3 rfl); rw [hu] at hK ⊢; clear hu; obtain ⟨q3, hr3, hq3, hM⟩ := id hC; go_step; refine (pick_any R _ _ _ _ hr3 (by omega) (by omega)).mono ?_; rintro e w4 ⟨x, rfl, hx0, hx1, hx2, hr4, hm4⟩; exact hK _ _ rfl (hC.mv hr4 (by omega) hm4) hm4 ⟨x, rfl, hx0, hx1 (by omega)⟩)), stSm rfl (fun m u w3 hm hC hd Q K hK => by (go_step; exact hK _ _ rfl hC.same (Mv.refl _ _ _) rfl)), stSm rfl (fun m u w3 hm hC hd Q K hK => by (have hu := bis (w := w3) (hd 5 rfl); rw [hu] at hK ⊢; clear hu; obtain ⟨q3, hr3, hq3, hM⟩ := id hC; go_step; refine (pick_any R _ _ _ _ hr3 (by omega) (by omega)).mono ?_; rintro e w4 ⟨x, rfl, hx0, hx1, hx2, hr4, hm4⟩; exact hK _ _ rfl (hC.mv hr4 (by omega) hm4) hm4 ⟨x, rfl, hx0, hx1 (by omega)⟩)), stSm rfl (fun m u w3 hm hC hd Q K hK => by (obtain ⟨x, hu, hx0, hx1⟩ := hd 4 rfl; rw [hu] at hK ⊢; clear hu; obtain ⟨y, hu, hy0, hy1⟩ := hd 6 rfl; rw [hu] at hK ⊢; clear hu; obtain ⟨q3, hr3, hq3, hM⟩ := id hC; go_step; have hal3 := fun o => (Below.refl w3.heap.size w3).alloc (Nat.le_refl _) o; have hlt3 := hr3.lt; refine hK _ _ rfl (hC.below (hal3 _)) (Mv.of_below (hal3 _)) ⟨_, rfl, by simp, by omega, fun j hj => ?_⟩; match j, hj with | 0, _ => exact ⟨_, by simp; try rfl, by omega, by omega⟩ | 1, _ => exact ⟨_, by simp; try rfl, by omega, by omega⟩ | 2, _ => exact ⟨_, by simp; try rfl, by omega, by omega⟩ | 3, _ => exact ⟨_, by simp; try rfl, by omega, by omega⟩ | j + 4, hj => exact absurd hj (by omega))), stSm rfl (fun m u w3 hm hC hd Q K hK => by (go_step; exact hK _ _ rfl hC.same (Mv.refl _ _ _) rfl)), stSm rfl (fun m u w3 hm hC hd Q K hK => by (have hu := bis (w := w3) (hd 8 rfl); rw [hu] at hK ⊢; clear hu; obtain ⟨q3, hr3, hq3, hM⟩ := id hC; go_step; refine (pick_any R _ _ _ _ hr3 (by omega) (by omega)).mono ?_; rintro e w4 ⟨x, rfl, hx0, hx1, hx2, hr4, hm4⟩; exact hK _ _ rfl (hC.mv hr4 (by omega) hm4) hm4 ⟨x, rfl, hx0, hx1 (by omega)⟩)), stSm rfl (fun m u w3 hm hC hd Q K hK => by (obtain ⟨x, hu, hx0, hx1⟩ := hd 9 rfl; rw [hu] at hK ⊢; clear hu; obtain ⟨nx, rfl⟩ := Int.eq_ofNat_of_zero_le hx0; obtain ⟨b, hu, hb1, hb2, hbc⟩ := hd 7 rfl; rw [hu] at hK ⊢; clear hu; go_step; refine hK _ _ rfl hC.same (Mv.refl _ _ _) ⟨b, _, rfl, hb1, hb2, ?_⟩; (try simp only [Nat.zero_add, Nat.mul_one, Nat.add_zero]); exact hbc nx (by omega))), stSm rfl (fun m u w3 hm hC hd Q K hK => by (obtain ⟨b, o, hu, hb1, hb2, x, hbc, hx0, hx1⟩ := hd 10 rfl; rw [hu] at hK ⊢; clear hu; go_step; exact hK _ _ rfl hC.same (Mv.refl _ _ _) ⟨x, rfl, hx0, hx1⟩)), stSm rfl (fun m u w3 hm hC hd Q K hK => by (have hu := bis (w := w3) (hd 2 rfl); rw [hu] at hK ⊢; clear hu; obtain ⟨x, hu, hx0, hx1⟩ := hd 11 rfl; rw [hu] at hK ⊢; clear hu; go_step; exact hK _ _ rfl hC.same (Mv.refl _ _ _) ⟨_, rfl, by omega, by omega⟩)), stSm rfl (fun m u w3 hm hC hd Q K hK => by (have hu := bis (w := w3) (hd 0 rfl); rw [hu] at hK ⊢; clear hu; obtain ⟨y, hu, hy0, hy1⟩ := hd 12 rfl; rw [hu] at hK ⊢; clear hu; go_step; exact hK _ _ rfl hC.same (Mv.refl _ _ _) ⟨_, rfl, by omega, by omega⟩)), stSm rfl (fun m u w3 hm hC hd Q K hK => by (go_step; exact hK _ _ rfl hC.same (Mv.refl _ _ _) rfl)), ⟨rfl, fun m u w3 hm hC hF Q K hK => by (dsimp only at hK ⊢; have hu := bis (w := w3) (hF 14 (by decide)); rw [hu] at hK ⊢; clear hu; obtain ⟨y, hu, hy0, hy1⟩ := hF 13 (by decide); rw [hu] at hK ⊢; clear hu; obtain ⟨q3, hr3, hq3, hM⟩ := id hC; have z0 := (mvC hM w1.heap.size l0 hne 1).trans c1; have z1 := (mvF hM w1.heap.size l0 hne 1).trans (cf 1);  go_step; exact hK _ _ rfl ⟨y, w3, q3, S.mv' hr3 hM, hy0, hy1, by omega, rfl⟩ (fun _ _ => trivial))⟩⟩); intro u w9 hD _
  obtain ⟨y, wy, q', S, hy0, hy1, hq, rfl⟩ := hD
  replace S := S.st (S.B.set1 y)
  go_wp2_with fail
  refine (odd_zero R _).mono ?_
  rintro e _ ⟨rfl, rfl⟩
  obtain ⟨wz, hwz⟩ : ∃ wz, wy.setCell ⟨w1.heap.size, 1, none⟩ (.int .i64 y) = wz := ⟨_, rfl⟩
  rw [hwz] at S ⊢
  clear hwz
  obtain ⟨m0, c0, c1, cf⟩ := id S.B
  obtain ⟨n0, d0, d1, df⟩ := id S.A
  have hbb := S.hb
  have hrd := Lib.hid S.rd
  have hMV := Lib.hid S.mv
  clear S
  go_wp2_with fail
  exact bodyPost_ret (v := .agg #[.int .i64 v0, .int .i64 y]) (by simp [results, Tryz.results94, go_sem, d0, d1]) rfl ⟨v0, y, _, rfl, hv0, hy0, hy1, hrd.out.up (by (repeat' (first | with_reducible exact Below.refl _ _ | with_reducible assumption | with_reducible refine Below.setCell ?_ ?_ _ | with_reducible refine Below.alloc ?_ ?_ _ | with_reducible refine Below.drew ?_ | with_reducible refine belDrewN ?_ _ | with_reducible refine Below.trans ?_ (Below.mono (by assumption) ?_) | omega | (simp; omega) | (simp; done)))), by omega, (hMV.out.setCell (by simp) _).setCell (by simp) _⟩
theorem drawSp_any (R : Nat) (bs : List Int) (p : Nat) (k : Nat) (hk : k < 4) (w : World) (h : RdAt R bs w p) (hp : p ≤ 900000) :
    Calls Tryz.prog 94 #[.pointer (some ⟨R, 0, none⟩), .int .i64 (top k), .int .i64 0] w (DrawnSp R bs p (top k) w) := by
  rcases (by omega : k = 0 ∨ k = 1 ∨ k = 2 ∨ k = 3) with rfl | rfl | rfl | rfl
  · exact drawSp_big R bs p w h hp
  · exact drawSp_big R bs p w h hp
  · exact drawSp_small R bs p w h hp
  · exact drawSp_seven R bs p w h hp
theorem l1Add_any {lo : Nat} {xs : List Sp} {u : Value} {t s1 s2 : Int} {w : World} (hs : Sps lo w u xs) (hx : xs.length ≤ 100) (ht : InT t xs) (ht1 : t ≤ 65535) (h0 : 0 ≤ s1) (h1 : s1 ≤ s2) (h2 : s2 ≤ t) :
    Calls Tryz.prog 113 #[u, .agg #[.int .i64 s1, .int .i64 s2]] w (SetT (xs.length + 1) t w) := by
  refine (l1Add_e hs hx ht ht1 h0 h1 h2).mono ?_
  rintro e w' ⟨v, rfl, g1, g2, g3, g4⟩
  exact ⟨v, _, rfl, g1, g2, g3, g4⟩
set_option maxHeartbeats 4000000 in
set_option maxRecDepth 100000 in
theorem spansOf_any {lo : Nat} {xs : List Sp} {u : Value} {t : Nat} {w : World} (hs : Sps lo w u xs) (hx : xs.length ≤ 40) (ht : InT (top t) xs) (htk : t < 4) :
    Calls Tryz.prog 92 #[u, .int .i64 (top t)] w (SetT 40 (top t) w) := by
  obtain ⟨a, cap, rfl, hlc, hcm⟩ := hs.form
  unfold maxLen at hcm
  obtain ⟨t0, t1⟩ := top_le htk
  generalize hT : top t = T at *
  generalize hn : xs.length = n at *
  have HN := Lib.hid hn
  have HS := Lib.hid hs
  have HT := Lib.hid ht
  have hi1 : inB T 0 65535 = true := inB_iff.2 ⟨by omega, by omega⟩
  clear hn hs ht hT
  have hal : Below w.heap.size w (w.alloc (.cells #[] 60)) := (Below.refl _ _).alloc (Nat.le_refl _) _
  have HO0 : OwnSp w.heap.size (w.alloc (.cells #[] 60)) (.slice (some ⟨w.heap.size, 0, none⟩) 0 0) [] := OwnSp.lit (Nat.le_refl _)
  go_enter Tryz.func92, Tryz.ntmps92
  go_wp2_with fail
  refine (l1In_b hi1 _).mono ?_
  rintro e _ ⟨rfl, rfl⟩
  go_wp2_with fail
  go_loopw [5, 6] (fun o i wr => ∃ (k : Nat) (ys : List Sp), k ≤ n ∧ i = .int .i64 k ∧ Hid (OwnSp w.heap.size wr o ys) ∧ Hid (ys.length ≤ k) ∧ Hid (InT T ys) ∧ Below w.heap.size w wr) (fun _ i _ => n - (intOf i).toNat)
  case atStart => exact ⟨0, [], by omega, rfl, Lib.hid HO0, Lib.hid (by simp), Lib.hid (fun k x h => by simp at h), hal⟩
  case round =>
    clear HO0 hal
    obtain ⟨k, ys, hk, rfl, HO, HL, HI, hbr⟩ := hrel
    have hzr := hbr.size
    by_cases hlt : k < n
    · have i1 : (k : Int) < (n : Int) := by omega
      have i2 : (0 : Int) ≤ (k : Int) := by omega
      obtain ⟨b, o, f1, f2, rfl, hbl, hx1, d0, d1⟩ := HS.out.at (show k < xs.length by rw [HN.out]; exact hlt)
      obtain ⟨j0, j1, j2⟩ := HT.out k _ hx1
      simp only at j0 j1 j2
      have hblr : b < wr.heap.size := by omega
      have q1 : inB f1 0 f2 = true := inB_iff.2 ⟨j0, j1⟩
      have q2 : inB f2 0 T = true := inB_iff.2 ⟨by omega, j2⟩
      have e0 := (hbr.cell (p := ⟨b, o + k * 2, none⟩) hbl).trans d0
      have e1 := (hbr.cell (p := ⟨b, o + k * 2 + 1, none⟩) hbl).trans d1
      clear hx1 d0 d1
      go_wp2_with fail
      refine wp_region_over (by kernel_rfl) (by kernel_rfl) (fun ov => ?_); have ov0 := fun x => ov x (b) (by (try simp) <;> omega); clear ov; (iterate 9 (iterate 8 (try go_big_quiet_step (first | (go_at_call 109; with_reducible exact callsOverSame (l1In_b q1 _)) | (go_at_call 109; with_reducible exact callsOverSame (l1In_b q2 _)))))); refine wpQuiet_nil ?_; intro w9 hw9; have hb_w9 := below_over hw9; clear hw9 ov0
      have a0 := (hb_w9.cell (p := ⟨b, o + k * 2, none⟩) hblr).trans e0
      have a1 := (hb_w9.cell (p := ⟨b, o + k * 2 + 1, none⟩) hblr).trans e1
      have HO9 := Lib.hid (OwnSl.kept HO.out hb_w9)
      have hw9 := hbr.trans (hb_w9.mono hzr)
      have hz9 := hw9.size
      clear hb_w9 e0 e1
      go_wp2_with fail
      refine (l1Add_any (OwnSp.sps HO9.out) (by have := HL.out; omega) HI.out t1 j0 j1 j2).mono ?_
      rintro e w4 ⟨v4, zs, rfl, ho4, hl4, hi4, hb4⟩
      have HO4 := Lib.hid (OwnSl.mono ho4 hz9)
      have HL4 := Lib.hid (show zs.length ≤ k + 1 by have := HL.out; omega)
      have HI4 := Lib.hid hi4
      have hw4 := hw9.trans (hb4.mono hz9)
      clear ho4 hi4 hb4 hl4
      go_wp2
      go_roundw
      case rel => exact ⟨k + 1, zs, by omega, by go_num, HO4, HL4, HI4, hw4⟩
      case measure => simp [intOf]; omega
    · have hkn : k = n := by omega
      subst hkn
      go_wp2
      go_ret
      exact ⟨_, ys, rfl, HO.out, by have := HL.out; omega, HI.out, hbr⟩
theorem OwnSl.mvK {α : Type} {R base e sz : Nat} {enc : α → List Value} {w w' : World} {v : Value} {ys : List α} (h : OwnSl base e sz enc w v ys) (hm : Mv R w.heap.size w w') (hR : R < base) : OwnSl base e sz enc w' v ys :=
  OwnSl.keepB h (fun g _ g2 g3 => hm.block g g3 (by omega))
/-- A set of the drawing's own. -/
def FSet (base m : Nat) : World → Value → Prop := fun w v => ∃ a c xs, v = .slice a xs.length c ∧ OwnSp base w (.slice a xs.length c) xs ∧ xs.length ≤ m
theorem mst_set {R base m : Nat} (h : R < base) : MStb R (FSet base m) := fun _ _ _ hm ⟨a, c, xs, h0, h1, h2⟩ => ⟨a, c, xs, h0, OwnSl.mvK h1 hm h, h2⟩
theorem FSet.mk {base b m : Nat} {w : World} {v : Value} {xs : List Sp} (h : OwnSp b w v xs) (hb : base ≤ b) (hl : xs.length ≤ m) : FSet base m w v := by
  obtain ⟨a, c, rfl, -, -⟩ := (OwnSp.sps h).form
  exact ⟨a, c, xs, rfl, OwnSl.mono h hb, hl⟩
def DrawnSet (R : Nat) (bs : List Int) (p : Nat) (m d : Nat) (t : Int) (w : World) (e : Ending) (w' : World) : Prop :=
  ∃ v xs q, e = .returned v ∧ OwnSp w.heap.size w' v xs ∧ xs.length ≤ m ∧ InT t xs ∧ RdAt R bs w' q ∧ q ≤ p + d ∧ Mv R w.heap.size w w'
set_option maxHeartbeats 4000000 in
set_option maxRecDepth 100000 in
theorem drawRaw_any (R : Nat) (bs : List Int) (p : Nat) (t : Nat) (ht : t < 4) (w : World) (h : RdAt R bs w p) (hp : p ≤ 800000) :
    Calls Tryz.prog 93 #[.pointer (some ⟨R, 0, none⟩), .int .i64 (top t), .int .i64 0] w (DrawnSet R bs p 5 260 (top t) w) := by
  have hR := h.lt
  obtain ⟨t0, t1⟩ := top_le ht
  have HC := Lib.hid (fun q w h hp => drawSp_any R bs q t ht w h hp)
  generalize top t = T at *
  obtain ⟨i0, hi, hy0, hy1, hy2⟩ := info_parts infoSp
  go_enter Tryz.func93, Tryz.ntmps93
  go_wp2_with fail
  refine (pick_any R bs p _ _ (h.below ((Below.refl _ _).alloc (Nat.le_refl _) _)) (by omega) (by omega)).mono ?_
  rintro e w1 ⟨x1, rfl, a1, b1, -, hr1, hm1⟩
  have hx1 := b1 (by omega)
  have hz1 := hm1.size; simp at hz1
  have hq1 : Mv R w.heap.size w w1 := ((Mv.refl _ _ _).alloc (Nat.le_refl _) _).trans (hm1.mono (by simp))
  have HO1 := Lib.hid (show OwnSp w.heap.size w1 (.slice (some ⟨w.heap.size, 0, none⟩) 0 0) [] from OwnSl.mvK (OwnSp.lit (Nat.le_refl _)) hm1 hR)
  go_wp2_with fail
  go_loopw [7, 8] (fun v i wr => ∃ ys k q, i = .int .i64 k ∧ k ≤ 5 ∧ 0 ≤ k ∧ Hid (OwnSp w.heap.size wr v ys) ∧ Hid ((ys.length : Int) + k ≤ 5) ∧ Hid (InT T ys) ∧ RdAt R bs wr q ∧ (q : Int) + 51 * k ≤ p + 256 ∧ Mv R w.heap.size w wr) (fun _ i _ => (intOf i).toNat)
  case atStart => exact ⟨[], x1, p + 1, rfl, by omega, a1, HO1, Lib.hid (by simp; omega), Lib.hid (fun k x h => by simp at h), hr1, by omega, hq1⟩
  case round =>
    obtain ⟨ys, k, q, rfl, hk6, hk0, HO, HL, HI, hr, hq, hmr⟩ := hrel
    have hzr := hmr.size
    clear HO1 hr1 hm1 hq1 b1
    by_cases hk : 0 < k
    · go_wp2_with fail
      refine (HC.out q _ hr (by omega)).mono ?_
      rintro e w2 ⟨lo, hi', q2, rfl, g0, g1, g2, hr2, hq2, hm2⟩
      have hz2 := hm2.size
      have HO2 := Lib.hid (OwnSl.mvK HO.out hm2 hR)
      have HL2 := Lib.hid (show ys.length ≤ 5 by have := HL.out; omega)
      go_wp2_with (at_builtin; refine wpList_append_own _ rfl _ _ 61 rfl w.heap.size 60 i0 _ 2 16 Tryz.underlying61 hi hy0 hy1 hy2 rfl (by decide) _ _ _ rfl (World.ownsRow.alloc HO2.out _) ⟨w2.heap.size, 0, none⟩ 1 1 (Sp.enc ⟨lo, hi'⟩) rfl rfl (cellsNew w2 (Sp.enc ⟨lo, hi'⟩) _) ?c2 ?c3 ?c4 ?c5 ?_)
      case c2 => simp [Value.oneCell']
      case c3 => have := HL2.out; simp only [maxLen]; omega
      case c4 => have := HL2.out; omega
      case c5 => simp; omega
      intro v' w5 hown5 hgrow5 _
      have hB5 : Below w.heap.size w2 w5 := belGrown ((Below.refl _ _).alloc (by omega) _) (World.ownsRow.alloc HO2.out _) hgrow5 (by simp; omega)
      have hr5 : RdAt R bs w5 q2 := hr2.up (hB5.mono (by omega))
      have hm5 : Mv R w.heap.size w w5 := (hmr.trans (hm2.mono hzr)).trans (Mv.of_below hB5)
      have HO5 := Lib.hid (OwnSl.pushed rfl hown5)
      have HI5 := Lib.hid (HI.out.snoc (x := ⟨lo, hi'⟩) g0 g1 g2)
      clear hown5 hgrow5
      go_wp2
      go_roundw
      case rel => exact ⟨_, k - 1, q2, by go_num, by omega, by omega, HO5, Lib.hid (by have := HL.out; simp; omega), HI5, hr5, by omega, hm5⟩
      case measure => simp [intOf]; omega
    · obtain rfl : k = 0 := by omega
      go_wp2
      go_ret
      exact ⟨_, ys, q, rfl, HO.out, by have := HL.out; omega, HI.out, hr, by omega, hmr⟩
set_option maxHeartbeats 4000000 in
set_option maxRecDepth 100000 in
theorem drawSet_any (R : Nat) (bs : List Int) (p : Nat) (t : Nat) (ht : t < 4) (w : World) (h : RdAt R bs w p) (hp : p ≤ 800000) :
    Calls Tryz.prog 71 #[.pointer (some ⟨R, 0, none⟩), .int .i64 (top t), .int .i64 0] w (DrawnSet R bs p 40 260 (top t) w) := by
  have hR := h.lt
  go_enter Tryz.func71, Tryz.ntmps71
  go_wp2_with fail
  refine (drawRaw_any R bs p t ht _ h hp).mono ?_
  rintro e w1 ⟨v1, xs, q1, rfl, ho1, hl1, hi1, hr1, hq1, hm1⟩
  have hz1 := hm1.size
  go_wp2_with fail
  refine (spansOf_any (OwnSp.sps ho1) (by omega) hi1 ht).mono ?_
  rintro e w2 ⟨v2, ys, rfl, ho2, hl2, hi2, hb2⟩
  have HO2 := Lib.hid (OwnSl.mono ho2 hz1)
  have hr2 := hr1.below hb2
  have hm2 := hm1.trans (Mv.of_below (hb2.mono hz1))
  clear ho1 ho2 hr1 hb2
  go_wp2_with fail
  refine (odd_zero R _).mono ?_
  rintro e _ ⟨rfl, rfl⟩
  go_wp2
  go_ret
  exact ⟨_, ys, q1, rfl, HO2.out, hl2, hi2, hr2, by omega, hm2⟩
/-- A test in a block of the call's own. -/
structure Tq (w : World) (b : Nat) (f lo hi : Int) (q : Bool) : Prop where
  lt : b < w.heap.size
  c0 : w.cell? ⟨b, 0, none⟩ = some (.int .i64 f)
  c1 : w.cell? ⟨b, 1, none⟩ = some (.int .i64 lo)
  c2 : w.cell? ⟨b, 2, none⟩ = some (.int .i64 hi)
  c3 : w.cell? ⟨b, 3, none⟩ = some (.bool q)
  frz : ∀ j, w.frozen? ⟨b, j, none⟩ = false
theorem Tq.mv {R B : Nat} {w w' : World} {b : Nat} {f lo hi : Int} {q : Bool} (h : Tq w b f lo hi q) (hm : Mv R B w w') (hb : b < B) (hne : b ≠ R) : Tq w' b f lo hi q :=
  ⟨Nat.lt_of_lt_of_le h.lt hm.size, (mvC hm b hb hne 0).trans h.c0, (mvC hm b hb hne 1).trans h.c1, (mvC hm b hb hne 2).trans h.c2, (mvC hm b hb hne 3).trans h.c3, fun j => (mvF hm b hb hne j).trans (h.frz j)⟩
theorem Tq.new (w : World) (f lo hi : Int) (q : Bool) (ty : TypeId) : Tq (w.alloc (.cells #[.int .i64 f, .int .i64 lo, .int .i64 hi, .bool q] ty)) w.heap.size f lo hi q := ⟨by simp, by simp, by simp, by simp, by simp, frz_new w _ _⟩
theorem Tq.old {w : World} {b : Nat} {f lo hi : Int} {q : Bool} (h : Tq w b f lo hi q) (o : Obj) : Tq (w.alloc o) b f lo hi q :=
  h.mv (R := w.heap.size) (B := w.heap.size) (Mv.of_below ((Below.refl _ _).alloc (Nat.le_refl _) _)) h.lt (Nat.ne_of_lt h.lt)
theorem Tq.far {w : World} {b : Nat} {f lo hi : Int} {q : Bool} (h : Tq w b f lo hi q) {p : Addr} (hp : p.block ≠ b) (u : Value) : Tq (w.setCell p u) b f lo hi q := by
  obtain ⟨l, h0, h1, h2, h3, hf⟩ := h
  have hb : ∀ o, (w.setCell p u).cell? ⟨b, o, none⟩ = w.cell? ⟨b, o, none⟩ := fun o => World.cell?_of_block (a := ⟨b, o, none⟩) (Below.heap_setCell _ _ _ _ (fun e => hp e.symm))
  exact ⟨by simpa [World.setCell] using l, (hb 0).trans h0, (hb 1).trans h1, (hb 2).trans h2, (hb 3).trans h3, fun j => by simpa using hf j⟩
theorem Tq.set12 {w : World} {b : Nat} {f lo hi : Int} {q : Bool} (h : Tq w b f lo hi q) (x y : Int) : Tq ((w.setCell ⟨b, 1, none⟩ (.int .i64 x)).setCell ⟨b, 2, none⟩ (.int .i64 y)) b f x y q := by
  obtain ⟨l, h0, h1, h2, h3, hf⟩ := h
  refine ⟨by simpa [World.setCell] using l, ?_, ?_, ?_, ?_, fun j => by simpa using hf j⟩
  · rw [World.cell?_setCell_other _ _ _ _ (by simp), World.cell?_setCell_other _ _ _ _ (by simp)]; exact h0
  · rw [World.cell?_setCell_other _ _ _ _ (by simp)]; exact World.cell?_setCell_same' _ _ _ (by rw [h1]; rfl)
  · exact World.cell?_setCell_same' _ _ _ (by rw [World.cell?_setCell_other _ _ _ _ (by simp), h2]; rfl)
  · rw [World.cell?_setCell_other _ _ _ _ (by simp), World.cell?_setCell_other _ _ _ _ (by simp)]; exact h3
/-- The drawn test in the making: the answer's block is the first new one, then those of t and s. -/
structure TsAll (R : Nat) (bs : List Int) (w : World) (b c : Nat) (wx : World) (p : Nat) (f : Int) (q : Bool) (v0 v1 : Int) : Prop where
  rd : RdAt R bs wx p
  T : Tq wx b f 0 0 q
  S : Two wx c v0 v1
  A : Tq wx w.heap.size 0 0 0 false
  mv : Mv R w.heap.size w wx
  hR : R < w.heap.size
  hb : w.heap.size < b
  hc : b < c
theorem TsAll.mv' {R : Nat} {bs : List Int} {w : World} {b c : Nat} {wx wy : World} {p p' : Nat} {f : Int} {q : Bool} {v0 v1 : Int} (S : TsAll R bs w b c wx p f q v0 v1) (hr : RdAt R bs wy p') (hm : Mv R wx.heap.size wx wy) : TsAll R bs w b c wy p' f q v0 v1 :=
  have hR := S.hR; have hb := S.hb; have hc := S.hc
  ⟨hr, S.T.mv hm S.T.lt (by omega), S.S.mv hm S.S.lt (by omega), S.A.mv hm S.A.lt (by omega), S.mv.trans (hm.mono S.mv.size), S.hR, S.hb, S.hc⟩
/-- Stores into the block of s. -/
theorem TsAll.st {R : Nat} {bs : List Int} {w : World} {b c : Nat} {wx wy : World} {p : Nat} {f : Int} {q : Bool} {v0 v1 u0 u1 : Int} (S : TsAll R bs w b c wx p f q v0 v1) (hA : Below c wx wy) (hS : Two wy c u0 u1) : TsAll R bs w b c wy p f q u0 u1 :=
  have hR := S.hR; have hb := S.hb; have hc := S.hc
  have hq := Mv.of_below (R := R) hA
  ⟨S.rd.up (hA.mono (by omega)), S.T.mv hq hc (by omega), hS, S.A.mv hq (by omega) (by omega), S.mv.trans (hq.mono (by omega)), S.hR, S.hb, S.hc⟩
/-- Ranges in a list of the drawing's own. -/
def FS3 (R n : Nat) (T : Int) : World → Value → Prop := fun w v => ∃ b, v = .slice (some ⟨b, 0, none⟩) n n ∧ b < w.heap.size ∧ b ≠ R ∧ ∀ j, j < n → ∃ x y, w.cell? ⟨b, j * 2, none⟩ = some (.int .i64 x) ∧ w.cell? ⟨b, j * 2 + 1, none⟩ = some (.int .i64 y) ∧ 0 ≤ x ∧ x ≤ y ∧ y ≤ T
def FA3 (R : Nat) (T : Int) : World → Value → Prop := fun w v => ∃ b o, v = .pointer (some ⟨b, o, none⟩) ∧ b < w.heap.size ∧ b ≠ R ∧ ∃ x y, w.cell? ⟨b, o, none⟩ = some (.int .i64 x) ∧ w.cell? ⟨b, o + 1, none⟩ = some (.int .i64 y) ∧ 0 ≤ x ∧ x ≤ y ∧ y ≤ T
theorem mst_s3 {R n : Nat} {T : Int} : MStb R (FS3 R n T) := fun _ _ _ hm ⟨b, h1, h2, h3, h4⟩ =>
  ⟨b, h1, Nat.lt_of_lt_of_le h2 hm.size, h3, fun j hj => let ⟨x, y, g0, g1, g2⟩ := h4 j hj; ⟨x, y, (mvC hm b h2 h3 _).trans g0, (mvC hm b h2 h3 _).trans g1, g2⟩⟩
theorem mst_a3 {R : Nat} {T : Int} : MStb R (FA3 R T) := fun _ _ _ hm ⟨b, o, h1, h2, h3, x, y, g0, g1, g2⟩ =>
  ⟨b, o, h1, Nat.lt_of_lt_of_le h2 hm.size, h3, x, y, (mvC hm b h2 h3 _).trans g0, (mvC hm b h2 h3 _).trans g1, g2⟩
/-- The test in the making, its numbers in order. -/
def TsSt (R : Nat) (bs : List Int) (w : World) (b c : Nat) (f : Int) (nt : Bool) (T : Int) (p : Nat) (wx : World) : Prop :=
  ∃ v0 v1 q, TsAll R bs w b c wx q f nt v0 v1 ∧ 0 ≤ v0 ∧ v0 ≤ v1 ∧ v1 ≤ T ∧ q ≤ p
def DrawnTe (R : Nat) (bs : List Int) (p : Nat) (w : World) (e : Ending) (w' : World) : Prop :=
  ∃ (f lo hi : Int) (nt : Bool) (q : Nat), e = .returned (.agg #[.int .i64 f, .int .i64 lo, .int .i64 hi, .bool nt]) ∧ tvalid1 f lo hi = true ∧ RdAt R bs w' q ∧ q ≤ p + 100 ∧ Mv R w.heap.size w w'
set_option maxHeartbeats 4000000 in
set_option maxRecDepth 100000 in
theorem drawTe_any (R : Nat) (bs : List Int) (p : Nat) (w : World) (h : RdAt R bs w p) (hp : p ≤ 800000) :
    Calls Tryz.prog 112 #[.pointer (some ⟨R, 0, none⟩), .int .i64 0] w (DrawnTe R bs p w) := by
  have hR := h.lt
  have hA0 := Tq.new w 0 0 0 false 147
  have hr0 := h.below ((Below.refl _ _).alloc (Nat.le_refl _) (.cells #[.int .i64 0, .int .i64 0, .int .i64 0, .bool false] 147))
  have hm0 : Mv R w.heap.size w (w.alloc (.cells #[.int .i64 0, .int .i64 0, .int .i64 0, .bool false] 147)) := (Mv.refl _ _ _).alloc (Nat.le_refl _) _
  go_enter Tryz.func112, Tryz.ntmps112
  go_wp2_with fail
  refine (pick_any R bs p _ _ hr0 (by omega) (by omega)).mono ?_
  rintro e w1 ⟨x1, rfl, x10, x11, -, hr1, hm1⟩
  have hx1 := x11 (by omega)
  have hz1 := hm1.size; simp at hz1
  have hA1 := hA0.mv hm1 (by simp) (by omega)
  replace hm1 := hm0.trans (hm1.mono (by simp))
  obtain ⟨f, rfl⟩ := Int.eq_ofNat_of_zero_le x10
  clear hA0 hr0 hm0 x11
  go_wp2_with fail
  refine (pick_any R bs _ _ _ hr1 (by omega) (by omega)).mono ?_
  rintro e w2 ⟨x2, rfl, x20, x21, -, hr2, hm2⟩
  have hx2 := x21 (by omega)
  have hz2 := hm2.size
  have hA2 := hA1.mv hm2 (by omega) (by omega)
  replace hm2 := hm1.trans (hm2.mono (by omega))
  obtain ⟨nt, hnt⟩ : ∃ nt : Bool, (x2 == 0) = nt := ⟨_, rfl⟩
  clear hA1 hr1 hm1 x21
  go_wp2_with fail
  refine (specFTop_any f (by omega) _).mono ?_
  rintro e _ ⟨rfl, rfl⟩
  have hT2 := Tq.new w2 f 0 0 nt 147
  have hal2 : Below w2.heap.size w2 (w2.alloc (.cells #[.int .i64 f, .int .i64 0, .int .i64 0, .bool nt] 147)) := (Below.refl _ _).alloc (Nat.le_refl _) _
  have hA3 := hA2.old (.cells #[.int .i64 f, .int .i64 0, .int .i64 0, .bool nt] 147)
  obtain ⟨t0, t1⟩ := top_le (n := f) (by omega)
  have ht2 : f < 2 → 30 ≤ top f := fun h => by rcases (by omega : f = 0 ∨ f = 1) with rfl | rfl <;> simp [top]
  have HC := Lib.hid (fun q w h hp => drawSp_any R bs q f (by omega) w h hp)
  obtain ⟨T, hT⟩ : ∃ T, top f = T := ⟨_, rfl⟩
  have HT := Lib.hid hT
  rw [hT] at t0 t1 ht2 HC ⊢
  clear hT
  go_wp2_with fail
  refine (HC.out _ _ (hr2.below hal2) (by omega)).mono ?_
  rintro e wb ⟨v0, v1, q3, rfl, g0, g1, g2, hr3, hq3, hm3⟩
  have hz3 := hm3.size
  simp at hz3
  have S : TsAll R bs w w2.heap.size wb.heap.size (wb.alloc (.cells #[.int .i64 v0, .int .i64 v1] 60)) q3 f nt v0 v1 :=
    ⟨hr3.below ((Below.refl _ _).alloc (Nat.le_refl _) _), (hT2.mv hm3 (by simp) (by omega)).old _, Two.new wb _ _ _, (hA3.mv hm3 (by simp; omega) (by omega)).old _, ((hm2.alloc (by omega) _).trans (hm3.mono (by simp; omega))).alloc (by omega) _, hR, by omega, by omega⟩
  clear hT2 hal2 hA3 hr2 hA2 hm2 hr3 hm3 HC
  have ST := Lib.hid (show TsSt R bs w w2.heap.size wb.heap.size f nt T (p + 52) _ from ⟨v0, v1, q3, S, g0, g1, g2, by omega⟩)
  clear S g0 g1 g2
  have hR' : R < w2.heap.size := by omega
  go_upto_region 4 with (fail)
  go_cut [27] (fun t wx => ∃ bb, t = .bool bb ∧ (bb = true → 30 ≤ T) ∧ TsSt R bs w w2.heap.size wb.heap.size f nt T (p + 53) wx)
  case first =>
    obtain ⟨u0, u1, q, S, g0, g1, g2, hq⟩ := ST.out
    clear ST
    obtain ⟨l0, c0, c1, c2, c3, cf⟩ := id S.T
    by_cases hf : f < 2
    · have hfi : (f : Int) < 2 := by omega
      go_wp2_with fail
      refine (pick_any R bs _ _ _ S.rd (by omega) (by omega)).mono ?_
      rintro e w4 ⟨x4, rfl, x40, x41, -, hr4, hm4⟩
      replace S := S.mv' hr4 hm4
      clear hr4 hm4 x41
      go_wp2_with fail
      go_meet
      exact ⟨_, rfl, fun _ => ht2 hf, u0, u1, _, S, g0, g1, g2, by omega⟩
    · have hfi : ¬ (f : Int) < 2 := by omega
      go_wp2_with fail
      go_meet
      exact ⟨_, rfl, fun h => by simp at h, u0, u1, _, S, g0, g1, g2, by omega⟩
  case rest =>
    obtain ⟨bb, rfl, hbb, hst⟩ := hcut
    clear ST
    have ST := Lib.hid hst
    clear hst
    go_upto_if 27 with (fail)
    go_cut [] (fun wx => TsSt R bs w w2.heap.size wb.heap.size f nt T (p + 70) wx)
    case first =>
      obtain ⟨u0, u1, q, S, g0, g1, g2, hq⟩ := ST.out
      clear ST
      cases bb
      · go_wp2_with fail
        go_meet
        exact ⟨u0, u1, _, S, g0, g1, g2, by omega⟩
      · have hT := hbb rfl
        go_wp2_with fail
        refine (pick_any R bs _ _ _ S.rd (by omega) (by omega)).mono ?_
        rintro e w4 ⟨x4, rfl, x40, x41, -, hr4, hm4⟩
        have hx4 := x41 (by omega)
        replace S := S.mv' hr4 hm4
        clear hr4 hm4 x41
        obtain ⟨l0, c0, c1, cf⟩ := id S.S
        go_upto_region 6 with (fail)
        replace S := S.st (wy := (w4.setCell ⟨wb.heap.size, 0, none⟩ (.int .i64 x4)).setCell ⟨wb.heap.size, 1, none⟩ (.int .i64 0)) (((Below.refl _ _).setCell (p := ⟨wb.heap.size, 0, none⟩) (Nat.le_refl _) _).setCell (p := ⟨wb.heap.size, 1, none⟩) (Nat.le_refl _) _) ((S.S.set0 x4).set1 0)
        obtain ⟨wx, hwx⟩ : ∃ wx, (w4.setCell ⟨wb.heap.size, 0, none⟩ (.int .i64 x4)).setCell ⟨wb.heap.size, 1, none⟩ (.int .i64 0) = wx := ⟨_, rfl⟩
        rw [hwx] at S ⊢
        clear hwx l0 c0 c1 cf
        obtain ⟨l0, c0, c1, cf⟩ := id S.S
        have hne : wb.heap.size ≠ R := by omega
        refine wp_region_last (CM R bs _ 1 wx) (fun a b => Mv R a.heap.size a b) (bof [BIs (.pointer (some ⟨wb.heap.size, 0, none⟩)), BIs (.int .i64 x4), BIs (.pointer (some ⟨R, 0, none⟩)), BV (fun v => ∃ x : Int, v = .int .i64 x ∧ 0 ≤ x ∧ x < 8), BV (fun v => ∃ y, v = .int .i64 y ∧ x4 ≤ y ∧ y ≤ 30), BIs (.pointer (some ⟨wb.heap.size, 1, none⟩))]) (fun _ _ _ => True) (fun w9 => ∃ y wy q, TsAll R bs w w2.heap.size wb.heap.size wy q f nt x4 0 ∧ x4 ≤ y ∧ y ≤ 30 ∧ q ≤ p + 70 ∧ w9 = wy.setCell ⟨wb.heap.size, 1, none⟩ (.int .i64 y)) 6 (by kernel_rfl) rfl (fun u => by simp only [frU, Act.put, List.setIfInBounds_toArray, List.set_cons_succ, List.set_cons_zero, Nat.zero_add, Nat.reduceAdd]; exact rfl) (by kernel_rfl) (by kernel_rfl) (fun iz wz wy vz hbz hz => bof_mst [BIs (.pointer (some ⟨wb.heap.size, 0, none⟩)), BIs (.int .i64 x4), BIs (.pointer (some ⟨R, 0, none⟩)), BV (fun v => ∃ x : Int, v = .int .i64 x ∧ 0 ≤ x ∧ x < 8), BV (fun v => ∃ y, v = .int .i64 y ∧ x4 ≤ y ∧ y ≤ 30), BIs (.pointer (some ⟨wb.heap.size, 1, none⟩))] ⟨mst_is _, mst_is _, mst_is _, mst_v _, mst_v _, mst_is _, trivial⟩ iz wz wy vz hbz hz) (CM.start S.rd) ?_ ?_; (exact ⟨stSm rfl (fun m u w3 hm hC hd Q K hK => by (go_step; exact hK _ _ rfl hC.same (Mv.refl _ _ _) rfl)), stSm rfl (fun m u w3 hm hC hd Q K hK => by (have hu := bis (w := w3) (hd 0 rfl); rw [hu] at hK ⊢; clear hu; obtain ⟨q3, hr3, hq3, hM⟩ := id hC; have z0 := (mvC hM wb.heap.size l0 hne 0).trans c0; go_step; exact hK _ _ rfl hC.same (Mv.refl _ _ _) rfl)), stSm rfl (fun m u w3 hm hC hd Q K hK => by (go_step; exact hK _ _ rfl hC.same (Mv.refl _ _ _) rfl)), stSm rfl (fun m u w3 hm hC hd Q K hK => by (have hu := bis (w := w3) (hd 2 rfl); rw [hu] at hK ⊢; clear hu; obtain ⟨q3, hr3, hq3, hM⟩ := id hC; go_step; refine (pick_any R _ _ _ _ hr3 (by omega) (by omega)).mono ?_; rintro e w4 ⟨x, rfl, hx0, hx1, hx2, hr4, hm4⟩; exact hK _ _ rfl (hC.mv hr4 (by omega) hm4) hm4 ⟨x, rfl, hx0, hx1 (by omega)⟩)), stSm rfl (fun m u w3 hm hC hd Q K hK => by (have hu := bis (w := w3) (hd 1 rfl); rw [hu] at hK ⊢; clear hu; obtain ⟨x, hu, hx0, hx1⟩ := hd 3 rfl; rw [hu] at hK ⊢; clear hu; go_step; exact hK _ _ rfl hC.same (Mv.refl _ _ _) ⟨_, rfl, by omega, by omega⟩)), stSm rfl (fun m u w3 hm hC hd Q K hK => by (go_step; exact hK _ _ rfl hC.same (Mv.refl _ _ _) rfl)), ⟨rfl, fun m u w3 hm hC hF Q K hK => by (dsimp only at hK ⊢; have hu := bis (w := w3) (hF 5 (by decide)); rw [hu] at hK ⊢; clear hu; obtain ⟨y, hu, hy0, hy1⟩ := hF 4 (by decide); rw [hu] at hK ⊢; clear hu; obtain ⟨q3, hr3, hq3, hM⟩ := id hC; have z0 := (mvC hM wb.heap.size l0 hne 1).trans c1; have z1 := (mvF hM wb.heap.size l0 hne 1).trans (cf 1);  go_step; exact hK _ _ rfl ⟨y, w3, q3, S.mv' hr3 hM, hy0, hy1, by omega, rfl⟩ (fun _ _ => trivial))⟩⟩); intro u w9 hD _
        obtain ⟨y, wy, q', S, hy0, hy1, hq', rfl⟩ := hD
        replace S := S.st (wy := wy.setCell ⟨wb.heap.size, 1, none⟩ (.int .i64 y)) ((Below.refl _ _).setCell (p := ⟨wb.heap.size, 1, none⟩) (Nat.le_refl _) _) (S.S.set1 y)
        go_wp2_with fail
        go_meet
        exact ⟨x4, y, _, S, by omega, by omega, by omega, hq'⟩
    case rest =>
      clear ST hbb
      obtain ⟨u0, u1, q, S, g0, g1, g2, hq⟩ := hcut
      go_upto_region 7 with (fail)
      obtain ⟨l0, c0, c1, cf⟩ := id S.S
      have hne : wb.heap.size ≠ R := by omega
      go_wp2_with fail
      refine (pick_any R bs _ _ _ S.rd (by omega) (by omega)).mono ?_
      rintro e w4 ⟨x4, rfl, x40, x41, -, hr4, hm4⟩
      replace S := S.mv' hr4 hm4
      clear hr4 hm4 x41 l0 c0 c1 cf
      have ST := Lib.hid S
      clear S
      go_upto_if 39 with (fail)
      go_cut [] (fun wx => TsSt R bs w w2.heap.size wb.heap.size f nt T (p + 90) wx)
      case first =>
        have S := ST.out
        clear ST
        obtain ⟨l0, c0, c1, cf⟩ := id S.S
        by_cases hx : x4 = 0
        · subst hx
          go_wp2_with fail
          refine wp_region_last (CM R bs _ 1 w4) (fun a b => Mv R a.heap.size a b) (bof [BIs (.int .i64 T), BIs (.agg #[.int .i64 0, .int .i64 T]), BIs (.pointer (some ⟨wb.heap.size, 1, none⟩)), BIs (.int .i64 u1), BIs (.agg #[.int .i64 0, .int .i64 u1]), BIs (.pointer (some ⟨wb.heap.size, 0, none⟩)), BIs (.int .i64 u0), BIs (.int .i64 T), BIs (.agg #[.int .i64 u0, .int .i64 T]), (FS3 R 3 T), BIs (.pointer (some ⟨R, 0, none⟩)), BV (fun v => ∃ x : Int, v = .int .i64 x ∧ 0 ≤ x ∧ x < 3), (FA3 R T), (BV (fun v => ∃ x y : Int, v = .agg #[.int .i64 x, .int .i64 y] ∧ 0 ≤ x ∧ x ≤ y ∧ y ≤ T))]) (fun _ _ _ => True) (fun w9 => ∃ x y wy q, TsAll R bs w w2.heap.size wb.heap.size wy q f nt u0 u1 ∧ 0 ≤ x ∧ x ≤ y ∧ y ≤ T ∧ q ≤ p + 90 ∧ w9 = (wy.setCell ⟨wb.heap.size, 0, none⟩ (.int .i64 x)).setCell ⟨wb.heap.size, 1, none⟩ (.int .i64 y)) 14 (by kernel_rfl) rfl (fun u => by simp only [frU, Act.put, List.setIfInBounds_toArray, List.set_cons_succ, List.set_cons_zero, Nat.zero_add, Nat.reduceAdd]; exact rfl) (by kernel_rfl) (by kernel_rfl) (fun iz wz wy vz hbz hz => bof_mst [BIs (.int .i64 T), BIs (.agg #[.int .i64 0, .int .i64 T]), BIs (.pointer (some ⟨wb.heap.size, 1, none⟩)), BIs (.int .i64 u1), BIs (.agg #[.int .i64 0, .int .i64 u1]), BIs (.pointer (some ⟨wb.heap.size, 0, none⟩)), BIs (.int .i64 u0), BIs (.int .i64 T), BIs (.agg #[.int .i64 u0, .int .i64 T]), (FS3 R 3 T), BIs (.pointer (some ⟨R, 0, none⟩)), BV (fun v => ∃ x : Int, v = .int .i64 x ∧ 0 ≤ x ∧ x < 3), (FA3 R T), (BV (fun v => ∃ x y : Int, v = .agg #[.int .i64 x, .int .i64 y] ∧ 0 ≤ x ∧ x ≤ y ∧ y ≤ T))] ⟨mst_is _, mst_is _, mst_is _, mst_is _, mst_is _, mst_is _, mst_is _, mst_is _, mst_is _, (mst_s3), mst_is _, mst_v _, (mst_a3), (mst_v _), trivial⟩ iz wz wy vz hbz hz) (CM.start S.rd) ?_ ?_; (exact ⟨stSm rfl (fun m u w3 hm hC hd Q K hK => by (go_step; exact hK _ _ rfl hC.same (Mv.refl _ _ _) rfl)), stSm rfl (fun m u w3 hm hC hd Q K hK => by (have hu := bis (w := w3) (hd 0 rfl); rw [hu] at hK ⊢; clear hu; go_step; exact hK _ _ rfl hC.same (Mv.refl _ _ _) rfl)), stSm rfl (fun m u w3 hm hC hd Q K hK => by (go_step; exact hK _ _ rfl hC.same (Mv.refl _ _ _) rfl)), stSm rfl (fun m u w3 hm hC hd Q K hK => by (have hu := bis (w := w3) (hd 2 rfl); rw [hu] at hK ⊢; clear hu; obtain ⟨q3, hr3, hq3, hM⟩ := id hC; have z0 := (mvC hM wb.heap.size l0 hne 1).trans c1; go_step; exact hK _ _ rfl hC.same (Mv.refl _ _ _) rfl)), stSm rfl (fun m u w3 hm hC hd Q K hK => by (have hu := bis (w := w3) (hd 3 rfl); rw [hu] at hK ⊢; clear hu; go_step; exact hK _ _ rfl hC.same (Mv.refl _ _ _) rfl)), stSm rfl (fun m u w3 hm hC hd Q K hK => by (go_step; exact hK _ _ rfl hC.same (Mv.refl _ _ _) rfl)), stSm rfl (fun m u w3 hm hC hd Q K hK => by (have hu := bis (w := w3) (hd 5 rfl); rw [hu] at hK ⊢; clear hu; obtain ⟨q3, hr3, hq3, hM⟩ := id hC; have z0 := (mvC hM wb.heap.size l0 hne 0).trans c0; go_step; exact hK _ _ rfl hC.same (Mv.refl _ _ _) rfl)), stSm rfl (fun m u w3 hm hC hd Q K hK => by (go_step; exact hK _ _ rfl hC.same (Mv.refl _ _ _) rfl)), stSm rfl (fun m u w3 hm hC hd Q K hK => by (have hu := bis (w := w3) (hd 6 rfl); rw [hu] at hK ⊢; clear hu; have hu := bis (w := w3) (hd 7 rfl); rw [hu] at hK ⊢; clear hu; go_step; exact hK _ _ rfl hC.same (Mv.refl _ _ _) rfl)), stSm rfl (fun m u w3 hm hC hd Q K hK => by (have hu := bis (w := w3) (hd 1 rfl); rw [hu] at hK ⊢; clear hu; have hu := bis (w := w3) (hd 4 rfl); rw [hu] at hK ⊢; clear hu; have hu := bis (w := w3) (hd 8 rfl); rw [hu] at hK ⊢; clear hu; obtain ⟨q3, hr3, hq3, hM⟩ := id hC; go_step; have hal3 := fun o => (Below.refl w3.heap.size w3).alloc (Nat.le_refl _) o; have hlt3 := hr3.lt; refine hK _ _ rfl (hC.below (hal3 _)) (Mv.of_below (hal3 _)) ⟨_, rfl, by simp, by omega, fun j hj => ?_⟩; match j, hj with | 0, _ => exact ⟨0, T, by simp, by simp, by omega, by omega, by omega⟩ | 1, _ => exact ⟨0, u1, by simp, by simp, by omega, by omega, by omega⟩ | 2, _ => exact ⟨u0, T, by simp, by simp, by omega, by omega, by omega⟩ | j + 3, hj => exact absurd hj (by omega))), stSm rfl (fun m u w3 hm hC hd Q K hK => by (go_step; exact hK _ _ rfl hC.same (Mv.refl _ _ _) rfl)), stSm rfl (fun m u w3 hm hC hd Q K hK => by (have hu := bis (w := w3) (hd 10 rfl); rw [hu] at hK ⊢; clear hu; obtain ⟨q3, hr3, hq3, hM⟩ := id hC; go_step; refine (pick_any R _ _ _ _ hr3 (by omega) (by omega)).mono ?_; rintro e w4 ⟨x, rfl, hx0, hx1, hx2, hr4, hm4⟩; exact hK _ _ rfl (hC.mv hr4 (by omega) hm4) hm4 ⟨x, rfl, hx0, hx1 (by omega)⟩)), stSm rfl (fun m u w3 hm hC hd Q K hK => by (obtain ⟨q3, hr3, hq3, hM⟩ := id hC; obtain ⟨x, hu, hx0, hx1⟩ := hd 11 rfl; rw [hu] at hK ⊢; clear hu; obtain ⟨nx, rfl⟩ := Int.eq_ofNat_of_zero_le hx0; obtain ⟨b, hu, hb1, hb2, hbc⟩ := hd 9 rfl; rw [hu] at hK ⊢; clear hu; go_step; refine hK _ _ rfl hC.same (Mv.refl _ _ _) ⟨b, _, rfl, hb1, hb2, ?_⟩; (try simp only [Nat.zero_add]); exact hbc nx (by omega))), stSm rfl (fun m u w3 hm hC hd Q K hK => by (obtain ⟨q3, hr3, hq3, hM⟩ := id hC; obtain ⟨b, o, hu, hb1, hb2, x, y, e0, e1, k0, k1, k2⟩ := hd 12 rfl; rw [hu] at hK ⊢; clear hu; go_step; exact hK _ _ rfl hC.same (Mv.refl _ _ _) ⟨x, y, rfl, k0, k1, k2⟩)), ⟨rfl, fun m u w3 hm hC hF Q K hK => by (dsimp only at hK ⊢; obtain ⟨x, y, hu, k0, k1, k2⟩ := hF 13 (by decide); rw [hu] at hK ⊢; clear hu; obtain ⟨q3, hr3, hq3, hM⟩ := id hC; have z0 := (mvC hM wb.heap.size l0 hne 0).trans c0; have z1 := (mvF hM wb.heap.size l0 hne 0).trans (cf 0); have z2 := (mvC hM wb.heap.size l0 hne 1).trans c1; have z3 := (mvF hM wb.heap.size l0 hne 1).trans (cf 1);  go_step; exact hK _ _ rfl ⟨x, y, w3, q3, S.mv' hr3 hM, k0, k1, k2, by omega, rfl⟩ (fun _ _ => trivial))⟩⟩); intro u w9 hD _
          obtain ⟨x, y, wy, q', S, k0, k1, k2, hq', rfl⟩ := hD
          replace S := S.st (wy := (wy.setCell ⟨wb.heap.size, 0, none⟩ (.int .i64 x)).setCell ⟨wb.heap.size, 1, none⟩ (.int .i64 y)) (((Below.refl _ _).setCell (p := ⟨wb.heap.size, 0, none⟩) (Nat.le_refl _) _).setCell (p := ⟨wb.heap.size, 1, none⟩) (Nat.le_refl _) _) ((S.S.set0 x).set1 y)
          go_wp2_with fail
          go_meet
          exact ⟨x, y, _, S, k0, k1, k2, hq'⟩
        · have hx' : (x4 == 0) = false := by simpa using hx
          go_wp2_with fail
          go_meet
          exact ⟨u0, u1, _, S, g0, g1, g2, by omega⟩
      case rest =>
        clear ST
        obtain ⟨v0, v1, q9, S, k0, k1, k2, hq9⟩ := hcut
        obtain ⟨l0, c0, c1, cf⟩ := id S.S
        obtain ⟨m0, d0, d1, d2, d3, df⟩ := id S.T
        go_wp2_with fail
        refine (odd_zero R _).mono ?_
        rintro e _ ⟨rfl, rfl⟩
        have hB : Below w2.heap.size wc ((wc.setCell ⟨w2.heap.size, 1, none⟩ (.int .i64 v0)).setCell ⟨w2.heap.size, 2, none⟩ (.int .i64 v1)) := ((Below.refl _ _).setCell (p := ⟨w2.heap.size, 1, none⟩) (Nat.le_refl _) _).setCell (p := ⟨w2.heap.size, 2, none⟩) (Nat.le_refl _) _
        have T' := S.T.set12 v0 v1
        have A' := (S.A.far (p := ⟨w2.heap.size, 1, none⟩) (by simp only; omega) (.int .i64 v0)).far (p := ⟨w2.heap.size, 2, none⟩) (by simp only; omega) (.int .i64 v1)
        have R' := S.rd.up (hB.mono (by omega))
        have M' : Mv R w.heap.size w _ := S.mv.trans (Mv.of_below (hB.mono (by omega)))
        obtain ⟨wd, hwd⟩ : ∃ wd, (wc.setCell ⟨w2.heap.size, 1, none⟩ (.int .i64 v0)).setCell ⟨w2.heap.size, 2, none⟩ (.int .i64 v1) = wd := ⟨_, rfl⟩
        rw [hwd] at T' A' R' M' ⊢
        have HR := Lib.hid R'
        have HM := Lib.hid M'
        clear hwd S hB l0 c0 c1 cf m0 d0 d1 d2 d3 df R' M'
        obtain ⟨l0, c0, c1, c2, c3, cf⟩ := T'
        obtain ⟨m0, d0, d1, d2, d3, df⟩ := A'
        have HV := Lib.hid (show tvalid1 f v0 v1 = true by
          unfold tvalid1
          have := HT.out
          simp only [Bool.and_eq_true, decide_eq_true_eq, inB_iff, Int.toNat_natCast]
          omega)
        go_wp2_with fail
        exact bodyPost_ret (v := .agg #[.int .i64 f, .int .i64 v0, .int .i64 v1, .bool nt]) (by simp [results, Tryz.results112, go_sem, d0, d1, d2, d3]) rfl ⟨f, v0, v1, nt, _, rfl, HV.out, HR.out.up (by (repeat' (first | with_reducible exact Below.refl _ _ | with_reducible assumption | with_reducible refine Below.setCell ?_ ?_ _ | with_reducible refine Below.alloc ?_ ?_ _ | with_reducible refine Below.drew ?_ | with_reducible refine belDrewN ?_ _ | with_reducible refine Below.trans ?_ (Below.mono (by assumption) ?_) | omega | (simp; omega) | (simp; done)))), by omega, (((HM.out.setCell (by simp) _).setCell (by simp) _).setCell (by simp) _).setCell (by simp) _⟩
theorem infoTe : (Tryz.prog.info? 147).map (fun i => (i.zero, i.size, i.bytes)) = some (some (.agg #[.int .i64 0, .int .i64 0, .int .i64 0, .bool false]), 4, 32) := by kernel_rfl
def OwnTe (base : Nat) (w : World) (v : Value) (ys : List Te) : Prop := OwnSl base 147 4 Te.enc w v ys
theorem OwnTe.tes {base : Nat} {w : World} {v : Value} {ys : List Te} (h : OwnTe base w v ys) : Tes w v ys := OwnSl.at (sz := 4) (enc := Te.enc) (fun _ => rfl) h
def TeOk (ts : List Te) : Prop := ∀ (k : Nat) t, ts[k]? = some t → t.ok = true
def DrawnTes (R : Nat) (bs : List Int) (p : Nat) (w : World) (e : Ending) (w' : World) : Prop :=
  ∃ v ts q, e = .returned v ∧ OwnTe w.heap.size w' v ts ∧ ts.length ≤ 3 ∧ TeOk ts ∧ RdAt R bs w' q ∧ q ≤ p + 320 ∧ Mv R w.heap.size w w'
theorem TeOk.snoc {xs : List Te} (h : TeOk xs) {x : Te} (hx : x.ok = true) : TeOk (xs ++ [x]) := by
  intro k y hk
  by_cases hl : k < xs.length
  · rw [List.getElem?_append_left hl] at hk; exact h k y hk
  · have := (List.getElem?_eq_some_iff.1 hk).1
    simp at this
    obtain rfl : k = xs.length := by omega
    simp at hk
    subst hk; exact hx
theorem OwnTe.lit {base : Nat} {w : World} (h : base ≤ w.heap.size) : OwnTe base (w.alloc (.cells #[] 147)) (.slice (some ⟨w.heap.size, 0, none⟩) 0 0) [] := by
  have := World.ownsRow_made (e := 147) (size := 4) w #[] 0 h (by simp) (by simp)
  simpa [OwnTe, OwnSl] using this
set_option maxHeartbeats 4000000 in
set_option maxRecDepth 100000 in
theorem drawTes_any (R : Nat) (bs : List Int) (p : Nat) (w : World) (h : RdAt R bs w p) (hp : p ≤ 700000) :
    Calls Tryz.prog 91 #[.pointer (some ⟨R, 0, none⟩), .int .i64 0] w (DrawnTes R bs p w) := by
  have hR := h.lt
  obtain ⟨i0, hi, hy0, hy1, hy2⟩ := info_parts infoTe
  go_enter Tryz.func91, Tryz.ntmps91
  go_wp2_with fail
  refine (pick_any R bs p _ _ (h.below ((Below.refl _ _).alloc (Nat.le_refl _) _)) (by omega) (by omega)).mono ?_
  rintro e w1 ⟨x1, rfl, a1, b1, -, hr1, hm1⟩
  have hx1 := b1 (by omega)
  have hz1 := hm1.size; simp at hz1
  have hq1 : Mv R w.heap.size w w1 := ((Mv.refl _ _ _).alloc (Nat.le_refl _) _).trans (hm1.mono (by simp))
  have HO1 := Lib.hid (show OwnTe w.heap.size w1 (.slice (some ⟨w.heap.size, 0, none⟩) 0 0) [] from OwnSl.mvK (OwnTe.lit (Nat.le_refl _)) hm1 hR)
  go_wp2_with fail
  go_loopw [5, 6] (fun v i wr => ∃ ys k q, i = .int .i64 k ∧ k ≤ 3 ∧ 0 ≤ k ∧ Hid (OwnTe w.heap.size wr v ys) ∧ Hid ((ys.length : Int) + k ≤ 3) ∧ Hid (TeOk ys) ∧ RdAt R bs wr q ∧ (q : Int) + 101 * k ≤ p + 304 ∧ Mv R w.heap.size w wr) (fun _ i _ => (intOf i).toNat)
  case atStart => exact ⟨[], x1, p + 1, rfl, by omega, a1, HO1, Lib.hid (by simp; omega), Lib.hid (fun k x h => by simp at h), hr1, by omega, hq1⟩
  case round =>
    obtain ⟨ys, k, q, rfl, hk6, hk0, HO, HL, HI, hr, hq, hmr⟩ := hrel
    have hzr := hmr.size
    clear HO1 hr1 hm1 hq1 b1
    by_cases hk : 0 < k
    · go_wp2_with fail
      refine (drawTe_any R bs q _ hr (by omega)).mono ?_
      rintro e w2 ⟨f, lo, hi', nt, q2, rfl, hok, hr2, hq2, hm2⟩
      have hz2 := hm2.size
      have HO2 := Lib.hid (OwnSl.mvK HO.out hm2 hR)
      have HL2 := Lib.hid (show ys.length ≤ 3 by have := HL.out; omega)
      have HI2 := Lib.hid (HI.out.snoc (x := ⟨f, lo, hi', nt⟩) hok)
      clear hok
      go_wp2_with (at_builtin; refine wpList_append_own _ rfl _ _ 126 rfl w.heap.size 147 i0 _ 4 32 Tryz.underlying126 hi hy0 hy1 hy2 rfl (by decide) _ _ _ rfl (World.ownsRow.alloc HO2.out _) ⟨w2.heap.size, 0, none⟩ 1 1 (Te.enc ⟨f, lo, hi', nt⟩) rfl rfl (cellsNew w2 (Te.enc ⟨f, lo, hi', nt⟩) _) ?c2 ?c3 ?c4 ?c5 ?_)
      case c2 => simp [Value.oneCell']
      case c3 => have := HL2.out; simp only [maxLen]; omega
      case c4 => have := HL2.out; omega
      case c5 => simp; omega
      intro v' w5 hown5 hgrow5 _
      have hB5 : Below w.heap.size w2 w5 := belGrown ((Below.refl _ _).alloc (by omega) _) (World.ownsRow.alloc HO2.out _) hgrow5 (by simp; omega)
      have hr5 : RdAt R bs w5 q2 := hr2.up (hB5.mono (by omega))
      have hm5 : Mv R w.heap.size w w5 := (hmr.trans (hm2.mono hzr)).trans (Mv.of_below hB5)
      have HO5 := Lib.hid (OwnSl.pushed rfl hown5)
      clear hown5 hgrow5
      go_wp2
      go_roundw
      case rel => exact ⟨_, k - 1, q2, by go_num, by omega, by omega, HO5, Lib.hid (by have := HL.out; simp; omega), HI2, hr5, by omega, hm5⟩
      case measure => simp [intOf]; omega
    · obtain rfl : k = 0 := by omega
      go_wp2_with fail
      refine (odd_zero R _).mono ?_
      rintro e _ ⟨rfl, rfl⟩
      go_wp2
      go_ret
      exact ⟨_, ys, q, rfl, HO.out, by have := HL.out; omega, HI.out, hr, by omega, hmr⟩
/-- The drawn box in the making: the answer's block is the first new one, b the variable's, g the sets'. -/
structure BxAll (R : Nat) (bs : List Int) (w : World) (b g vc : Nat) (wx : World) (q : Nat) (bx : Bx) : Prop where
  rd : RdAt R bs wx q
  c : wx.cell? ⟨b, 0, none⟩ = some (.slice (some ⟨g, 0, none⟩) 4 vc)
  B : BxP none (w.heap.size + 1) wx (.slice (some ⟨g, 0, none⟩) 4 vc) bx
  len : bx.length = 4
  sets : ∀ (k : Nat) xs, bx[k]? = some xs → xs.length ≤ 40
  a : wx.cell? ⟨w.heap.size, 0, none⟩ = some (.slice none 0 0)
  f : wx.frozen? ⟨w.heap.size, 0, none⟩ = false
  mv : Mv R w.heap.size w wx
  hR : R < w.heap.size
  hg : w.heap.size < g
  hb : g < b
  lt : b < wx.heap.size
theorem BxAll.mv' {R : Nat} {bs : List Int} {w : World} {b g vc : Nat} {wx wy : World} {q q' : Nat} {bx : Bx} (S : BxAll R bs w b g vc wx q bx) (hr : RdAt R bs wy q') (hm : Mv R wx.heap.size wx wy) : BxAll R bs w b g vc wy q' bx :=
  have h1 := S.hR; have h2 := S.hg; have h3 := S.hb; have h4 := S.lt
  ⟨hr, (mvC hm b h4 (by omega) 0).trans S.c, S.B.mv hm (by omega), S.len, S.sets, (mvC hm _ (by omega) (by omega) 0).trans S.a, (mvF hm _ (by omega) (by omega) 0).trans S.f, S.mv.trans (hm.mono S.mv.size), S.hR, S.hg, S.hb, Nat.lt_of_lt_of_le h4 hm.size⟩
theorem BxAll.set {R : Nat} {bs : List Int} {w : World} {b g vc : Nat} {wx : World} {q : Nat} {bx : Bx} (S : BxAll R bs w b g vc wx q bx) {k : Nat} (hk : k < 4) {s : Value} {xs : List Sp} {base : Nat} (hs : OwnSp base wx s xs) (hb : b < base) (hl : xs.length ≤ 40) : BxAll R bs w b g vc (wx.setCell ⟨g, k, none⟩ s) q (bx.set k xs) := by
  have h1 := S.hR; have h2 := S.hg; have h3 := S.hb; have h4 := S.lt
  have hB : Below g wx (wx.setCell ⟨g, k, none⟩ s) := (Below.refl _ _).setCell (p := ⟨g, k, none⟩) (Nat.le_refl _) _
  have hM : Mv R g wx (wx.setCell ⟨g, k, none⟩ s) := Mv.of_below hB
  have hbl := World.cell?_of_block (a := ⟨b, 0, none⟩) (Below.heap_setCell wx ⟨g, k, none⟩ s b (by simp only; omega))
  refine ⟨S.rd.up (hB.mono (by omega)), hbl.trans S.c, S.B.set (by rw [S.len]; exact hk) (((OwnSp.sps hs).sub (Sb.into2 (by omega))).mono (by omega)), by simpa using S.len, fun j ys hj => ?_, (mvC hM _ (by omega) (by omega) 0).trans S.a, (mvF hM _ (by omega) (by omega) 0).trans S.f, S.mv.trans (hM.mono (by omega)), S.hR, S.hg, S.hb, by simpa using S.lt⟩
  by_cases e : k = j
  · subst e
    rw [List.getElem?_set_self (by rw [S.len]; exact hk)] at hj
    cases hj; exact hl
  · rw [List.getElem?_set_ne e] at hj
    exact S.sets j ys hj
def DrawnBx (R : Nat) (bs : List Int) (p : Nat) (w : World) (e : Ending) (w' : World) : Prop :=
  ∃ v bx q, e = .returned (.agg #[v]) ∧ BxP none w.heap.size w' v bx ∧ bx.length = 4 ∧ (∀ (k : Nat) xs, bx[k]? = some xs → xs.length ≤ 40) ∧ RdAt R bs w' q ∧ q ≤ p + 3000 ∧ Mv R w.heap.size w w'
set_option maxHeartbeats 4000000 in
set_option maxRecDepth 100000 in
theorem drawBx_any (R : Nat) (bs : List Int) (p : Nat) (w : World) (h : RdAt R bs w p) (hp : p ≤ 700000) :
    Calls Tryz.prog 70 #[.pointer (some ⟨R, 0, none⟩), .int .i64 0] w (DrawnBx R bs p w) := by
  have hR := h.lt
  obtain ⟨W, hW⟩ : ∃ W, (w.alloc (.cells #[.slice none 0 0] 68)) = W := ⟨_, rfl⟩
  have hal : Below w.heap.size w W := by rw [← hW]; (repeat' (first | with_reducible exact Below.refl _ _ | with_reducible assumption | with_reducible refine Below.setCell ?_ ?_ _ | with_reducible refine Below.alloc ?_ ?_ _ | with_reducible refine Below.drew ?_ | with_reducible refine belDrewN ?_ _ | with_reducible refine Below.trans ?_ (Below.mono (by assumption) ?_) | omega | (simp; omega) | (simp; done)))
  have qs : W.heap.size = w.heap.size + 1 := by rw [← hW]; simp
  have g2 : W.cell? ⟨w.heap.size, 0, none⟩ = some (.slice none 0 0) := by rw [← hW]; simp
  have m2 : W.frozen? ⟨w.heap.size, 0, none⟩ = false := by rw [← hW]; exact frz_new w _ _ 0
  have hr0 := h.below hal
  go_enter Tryz.func70, Tryz.ntmps70
  go_wp2_with fail
  refine (drawTes_any R bs p _ hr0 hp).mono ?_
  rintro e w1 ⟨v1, ts, q1, rfl, ho1, hl1, hok1, hr1, hq1, hm1⟩
  have hz1 := hm1.size
  go_wp2_with fail
  refine (testsBox_any ho1.tes hok1 hl1).mono ?_
  rintro e w2 ⟨v2, bx, rfl, hB2, hb4, hlx, hb2⟩
  have hz2 := hb2.size
  obtain ⟨g, vc, rfl, hg1, hg2, -, -, -⟩ := hB2.ptr (by omega)
  rw [hb4] at hB2
  have hr2 := hr1.below hb2
  have hm2 : Mv R W.heap.size W w2 := hm1.trans (Mv.of_below (hb2.mono hz1))
  clear ho1 hok1 hr1 hm1 hb2
  go_wp2_with fail
  have hal3 : Below w2.heap.size w2 (w2.alloc (.cells #[.slice (some ⟨g, 0, none⟩) 4 vc] 68)) := (Below.refl _ _).alloc (Nat.le_refl _) _
  have S : BxAll R bs w w2.heap.size g vc (w2.alloc (.cells #[.slice (some ⟨g, 0, none⟩) 4 vc] 68)) q1 bx := by
    have hR2 : R ≠ w.heap.size := by omega
    refine ⟨hr2.below hal3, by simp, (hB2.mono (by omega)).below hal3, hb4, fun k xs hx => Nat.le_trans (hlx k xs hx) (by decide), ?_, ?_, ?_, hR, by omega, hg2, by simp⟩
    · exact ((hal3.cell (p := ⟨w.heap.size, 0, none⟩) (by simp only; omega)).trans (mvC hm2 w.heap.size (by omega) (by omega) 0)).trans g2
    · exact ((hal3.frozen (p := ⟨w.heap.size, 0, none⟩) (by simp only; omega)).trans (mvF hm2 w.heap.size (by omega) (by omega) 0)).trans m2
    · exact ((Mv.of_below hal).trans (hm2.mono (by omega))).trans (Mv.of_below (hal3.mono (by omega)))
  clear hB2 hr2 hm2 hlx hal3 g2 m2 hr0
  refine (pick_any R bs _ _ _ S.rd (by omega) (by omega)).mono ?_
  rintro e w4 ⟨x4, rfl, x40, x41, -, hr4, hm4⟩
  replace S := S.mv' hr4 hm4
  clear hr4 hm4 x41
  have ST := Lib.hid S
  clear S
  go_upto_if 12 with (fail)
  go_cut [] (fun wx => ∃ q bx, BxAll R bs w w2.heap.size g vc wx q bx ∧ q ≤ p + 3000)
  case first =>
    have S := ST.out
    clear ST
    by_cases hx : x4 = 0
    · subst hx
      have h2 := S.hR; have h3 := S.hg; have h4 := S.hb
      go_wp2_with fail
      refine (pick_any R bs _ _ _ S.rd (by omega) (by omega)).mono ?_
      rintro e w5 ⟨x5, rfl, x50, x51, -, hr5, hm5⟩
      have hx5 := x51 (by omega)
      replace S := S.mv' hr5 hm5
      obtain ⟨kk, rfl⟩ := Int.eq_ofNat_of_zero_le x50
      have hk4 : kk < 4 := by omega
      clear hr5 hm5 x51
      obtain ⟨hgl, hfg⟩ : g < w5.heap.size ∧ ∀ o, w5.frozen? ⟨g, o, none⟩ = false := by
        obtain ⟨q', c', he, -, h2, -, -, h5⟩ := S.B.ptr (by rw [S.len]; decide)
        obtain ⟨he, -, -⟩ := Value.slice.inj he
        cases he
        exact ⟨h2, h5⟩
      obtain ⟨s0, xs0, d0, -, -⟩ := S.B.at (show kk < bx.length by rw [S.len]; exact hk4)
      have c0 := S.c
      have hlb := S.lt
      have hneb : w2.heap.size ≠ R := by omega
      have hneg : g ≠ R := by omega
      go_wp2_with fail
      refine wp_region_last (CM R bs _ 260 w5) (fun a b => Mv R a.heap.size a b) (bof [BIs (.pointer (some ⟨w2.heap.size, 0, none⟩)), BIs (.slice (some ⟨g, 0, none⟩) 4 vc), BIs (.int .i64 (kk : Int)), BIs (.pointer (some ⟨R, 0, none⟩)), BIs (.int .i64 (kk : Int)), (BIs (.int .i64 (top kk))), (FSet w5.heap.size 40), BIs (.pointer (some ⟨g, kk, none⟩))]) (fun _ _ _ => True) (fun w9 => ∃ wy q a c xs, BxAll R bs w w2.heap.size g vc wy q bx ∧ OwnSp w5.heap.size wy (.slice a xs.length c) xs ∧ xs.length ≤ 40 ∧ q ≤ p + 3000 ∧ w9 = wy.setCell ⟨g, kk, none⟩ (.slice a xs.length c)) 8 (by kernel_rfl) rfl (fun u => by simp only [frU, Act.put, List.setIfInBounds_toArray, List.set_cons_succ, List.set_cons_zero, Nat.zero_add, Nat.reduceAdd]; exact rfl) (by kernel_rfl) (by kernel_rfl) (fun iz wz wy vz hbz hz => bof_mst [BIs (.pointer (some ⟨w2.heap.size, 0, none⟩)), BIs (.slice (some ⟨g, 0, none⟩) 4 vc), BIs (.int .i64 (kk : Int)), BIs (.pointer (some ⟨R, 0, none⟩)), BIs (.int .i64 (kk : Int)), (BIs (.int .i64 (top kk))), (FSet w5.heap.size 40), BIs (.pointer (some ⟨g, kk, none⟩))] ⟨mst_is _, mst_is _, mst_is _, mst_is _, mst_is _, (mst_is _), (mst_set (by omega)), mst_is _, trivial⟩ iz wz wy vz hbz hz) (CM.start S.rd) ?_ ?_; (exact ⟨stSm rfl (fun m u w3 hm hC hd Q K hK => by (go_step; exact hK _ _ rfl hC.same (Mv.refl _ _ _) rfl)), stSm rfl (fun m u w3 hm hC hd Q K hK => by (have hu := bis (w := w3) (hd 0 rfl); rw [hu] at hK ⊢; clear hu; obtain ⟨q3, hr3, hq3, hM⟩ := id hC; have z0 := (mvC hM w2.heap.size hlb hneb 0).trans c0; go_step; exact hK _ _ rfl hC.same (Mv.refl _ _ _) rfl)), stSm rfl (fun m u w3 hm hC hd Q K hK => by (go_step; exact hK _ _ rfl hC.same (Mv.refl _ _ _) rfl)), stSm rfl (fun m u w3 hm hC hd Q K hK => by (go_step; exact hK _ _ rfl hC.same (Mv.refl _ _ _) rfl)), stSm rfl (fun m u w3 hm hC hd Q K hK => by (go_step; exact hK _ _ rfl hC.same (Mv.refl _ _ _) rfl)), stSm rfl (fun m u w3 hm hC hd Q K hK => by (have hu := bis (w := w3) (hd 4 rfl); rw [hu] at hK ⊢; clear hu; obtain ⟨q3, hr3, hq3, hM⟩ := id hC; go_step; refine (specFTop_any kk hk4 _).mono ?_; rintro e _ ⟨rfl, rfl⟩; exact hK _ _ rfl hC.same (Mv.refl _ _ _) rfl)), stSm rfl (fun m u w3 hm hC hd Q K hK => by (have hu := bis (w := w3) (hd 3 rfl); rw [hu] at hK ⊢; clear hu; have hu := bis (w := w3) (hd 5 rfl); rw [hu] at hK ⊢; clear hu; obtain ⟨q3, hr3, hq3, hM⟩ := id hC; go_step; refine (drawSet_any R bs _ kk hk4 _ hr3 (by omega)).mono ?_; rintro e w4 ⟨v4, xs4, q4, rfl, ho4, hl4, hi4, hr4, hq4, hm4⟩; exact hK _ _ rfl (hC.mv hr4 (by omega) hm4) hm4 (FSet.mk ho4 hM.size hl4))), stSm rfl (fun m u w3 hm hC hd Q K hK => by (have hu := bis (w := w3) (hd 1 rfl); rw [hu] at hK ⊢; clear hu; have hu := bis (w := w3) (hd 2 rfl); rw [hu] at hK ⊢; clear hu; go_step; exact hK _ _ rfl hC.same (Mv.refl _ _ _) rfl)), ⟨rfl, fun m u w3 hm hC hF Q K hK => by (dsimp only at hK ⊢; have hu := bis (w := w3) (hF 7 (by decide)); rw [hu] at hK ⊢; clear hu; obtain ⟨a6, c6, xs6, hu, h6, hl6⟩ := hF 6 (by decide); rw [hu] at hK ⊢; clear hu; obtain ⟨q3, hr3, hq3, hM⟩ := id hC; have z0 := (mvC hM g hgl hneg kk).trans d0; have z1 := (mvF hM g hgl hneg kk).trans (hfg kk);  go_step; exact hK _ _ rfl ⟨w3, q3, a6, c6, xs6, S.mv' hr3 hM, h6, hl6, by omega, rfl⟩ (fun _ _ => trivial))⟩⟩); intro u w9 hD _
      obtain ⟨wy, q9, a9, c9, xs9, S, h9, hl9, hq9, rfl⟩ := hD
      replace S := S.set hk4 h9 hlb hl9
      go_wp2_with fail
      go_meet
      exact ⟨_, _, S, hq9⟩
    · have hx' : (x4 == 0) = false := by simpa using hx
      go_wp2_with fail
      go_meet
      exact ⟨_, _, S, by omega⟩
  case rest =>
    clear ST
    obtain ⟨q9, bx9, S, hq9⟩ := hcut
    go_wp2_with fail
    refine (odd_zero R _).mono ?_
    rintro e _ ⟨rfl, rfl⟩
    have c0 := S.c; have a0 := S.a; have f0 := S.f; have l0 := S.lt; have h2 := S.hR; have h3 := S.hg; have h4 := S.hb
    go_wp2_with fail
    exact bodyPost_ret (v := .agg #[.slice (some ⟨g, 0, none⟩) 4 vc]) (by simp [results, Tryz.results70, go_sem, a0]) rfl ⟨_, bx9, q9, rfl, (S.B.keep (by simp) (fun k k1 k2 _ => Below.heap_setCell _ _ _ _ (by simp only; omega)) (fun z hz => .inl hz)).mono (by omega), S.len, S.sets, S.rd.up (by (repeat' (first | with_reducible exact Below.refl _ _ | with_reducible assumption | with_reducible refine Below.setCell ?_ ?_ _ | with_reducible refine Below.alloc ?_ ?_ _ | with_reducible refine Below.drew ?_ | with_reducible refine belDrewN ?_ _ | with_reducible refine Below.trans ?_ (Below.mono (by assumption) ?_) | omega | (simp; omega) | (simp; done)))), hq9, S.mv.setCell (by simp) _⟩
theorem set_sets {b : Bx} {j : Nat} {xs : List Sp} (h : ∀ (k : Nat) ys, b[k]? = some ys → ys.length ≤ 40) (hx : xs.length ≤ 40) : ∀ (k : Nat) ys, (b.set j xs)[k]? = some ys → ys.length ≤ 40 := by
  intro k ys hk
  by_cases e : j = k
  · subst e
    have hl := (List.getElem?_eq_some_iff.1 hk).1
    rw [List.getElem?_set_self (by simpa using hl)] at hk
    cases hk; exact hx
  · rw [List.getElem?_set_ne e] at hk
    exact h k ys hk
/-- The drawn rule in the making, in block c; w3 is the world before that block. -/
structure FlJ (R : Nat) (bs : List Int) (lo c : Nat) (o : Option Nat) (w3 wx : World) (q g vc : Nat) (bx : Bx) (acc : Bool) : Prop where
  rd : RdAt R bs wx q
  c0 : wx.cell? ⟨c, 0, none⟩ = some (.slice (some ⟨g, 0, none⟩) 4 vc)
  c1 : wx.cell? ⟨c, 1, none⟩ = some (.bool acc)
  frz : ∀ j, wx.frozen? ⟨c, j, none⟩ = false
  lt : c < wx.heap.size
  B : Rws lo (hole wx o) (.slice (some ⟨g, 0, none⟩) 4 vc) bx
  len : bx.length = 4
  sets : ∀ (k : Nat) xs, bx[k]? = some xs → xs.length ≤ 40
  mv : Mv R w3.heap.size w3 wx
theorem FlJ.mv' {R : Nat} {bs : List Int} {lo c : Nat} {o : Option Nat} {w3 wx wy : World} {q q' g vc : Nat} {bx : Bx} {acc : Bool} (S : FlJ R bs lo c o w3 wx q g vc bx acc) (hR : R < lo) (hc : c ≠ R) (hr : RdAt R bs wy q') (hm : Mv R wx.heap.size wx wy) : FlJ R bs lo c o w3 wy q' g vc bx acc :=
  ⟨hr, (mvC hm c S.lt hc 0).trans S.c0, (mvC hm c S.lt hc 1).trans S.c1, fun j => (mvF hm c S.lt hc j).trans (S.frz j), Nat.lt_of_lt_of_le S.lt hm.size, S.B.sub (Sb.hole hm.size (fun k k1 k2 k3 => ⟨k3, hm.block k k2 (by omega)⟩)), S.len, S.sets, S.mv.trans (hm.mono S.mv.size)⟩
def lenV : Value → Nat
  | .slice _ n _ => n
  | _ => 0
def DrawnFts (R : Nat) (bs : List Int) (p : Nat) (w : World) (e : Ending) (w' : World) : Prop :=
  ∃ v fs q, e = .returned v ∧ FsO w.heap.size w' v fs ∧ fs.length ≤ 61 ∧ FtOk (fun n => n ≤ 4) fs ∧ RdAt R bs w' q ∧ q ≤ p + 80000 ∧ Mv R w.heap.size w w'
set_option maxHeartbeats 8000000 in
set_option maxRecDepth 100000 in
theorem drawFts_any (R : Nat) (bs : List Int) (p : Nat) (n : Int) (w : World) (h : RdAt R bs w p) (hp : p ≤ 500000) (hn : n ≤ 1000000) (hn' : -1000000 ≤ n) :
    Calls Tryz.prog 42 #[.pointer (some ⟨R, 0, none⟩), .int .i64 n] w (DrawnFts R bs p w) := by
  have hR := h.lt
  obtain ⟨i0, hi, hy0, hy1, hy2⟩ := info_parts infoFt
  obtain ⟨j0, hj, hj0, hj1, hj2⟩ := info_parts infoSl
  go_enter Tryz.func42, Tryz.ntmps42
  go_wp2_with fail
  refine (pick_any R bs p _ _ (h.below ((Below.refl _ _).alloc (Nat.le_refl _) _)) (by omega) (by omega)).mono ?_
  rintro e w1 ⟨x1, rfl, a1, b1, -, hr1, hm1⟩
  have hx1 := b1 (by omega)
  have hz1 := hm1.size; simp at hz1
  have hq1 : Mv R w.heap.size w w1 := ((Mv.refl _ _ _).alloc (Nat.le_refl _) _).trans (hm1.mono (by simp))
  have HO1 := Lib.hid (show FsO w.heap.size w1 (.slice (some ⟨w.heap.size, 0, none⟩) 0 0) [] from (FsO.lit (Nat.le_refl _)).mv hm1 hR)
  go_wp2_with fail
  go_loopw [5, 6] (fun v i wr => ∃ fs k q, i = .int .i64 k ∧ k ≤ 6 ∧ 0 ≤ k ∧ Hid (FsO w.heap.size wr v fs) ∧ Hid ((fs.length : Int) + k ≤ 6) ∧ Hid (FtOk (fun n => n = 4) fs) ∧ RdAt R bs wr q ∧ (q : Int) + 10000 * k ≤ p + 60001 ∧ Mv R w.heap.size w wr) (fun _ i _ => (intOf i).toNat)
  case atStart => exact ⟨[], x1, p + 1, rfl, by omega, a1, HO1, Lib.hid (by simp; omega), Lib.hid (fun k x h => by simp at h), hr1, by omega, hq1⟩
  case round =>
    obtain ⟨fs, k, q, rfl, hk6, hk0, HO, HL, HI, hr, hq, hmr⟩ := hrel
    have hzr := hmr.size
    clear HO1 hr1 hm1 hq1 b1
    by_cases hk : 0 < k
    · go_wp2_with fail
      refine (drawBx_any R bs q _ hr (by omega)).mono ?_
      rintro e w2 ⟨v2, bx, q2, rfl, hB2, hb4, hbs, hr2, hq2, hm2⟩
      have hz2 := hm2.size
      obtain ⟨g, vc, rfl, hg1, hg2, -, -, -⟩ := hB2.ptr (by omega)
      rw [hb4] at hB2
      go_wp2_with fail
      refine (pick_any R bs _ _ _ hr2 (by omega) (by omega)).mono ?_
      rintro e wb ⟨x3, rfl, a3, b3, -, hr3, hm3⟩
      have hz3 := hm3.size
      obtain ⟨acc, hacc⟩ : ∃ acc : Bool, (x3 == 0) = acc := ⟨_, rfl⟩
      have hFO3 : FsO w.heap.size wb u5 fs := (HO.out.mv hm2 hR).mv hm3 hR
      have hM3 : Mv R w.heap.size w wb := (hmr.trans (hm2.mono hzr)).trans (hm3.mono (by omega))
      have hB3 := hB2.mv hm3 (by omega)
      obtain ⟨sa, cap, hu5, hlc, hcm⟩ := hFO3.fts.form
      unfold maxLen at hcm
      have hown : ∀ z, u5.ownBlock = some z → w.heap.size ≤ z ∧ z < wr.heap.size := by
        obtain ⟨rs, h1, -⟩ := HO.out
        exact fun z hz => World.ownsRow.lt h1 z hz
      have hal3 : Below wb.heap.size  wb (wb.alloc (.cells #[.slice (some ⟨g, 0, none⟩) 4 vc, .bool acc] 81)) := (Below.refl _ _).alloc (Nat.le_refl _) _
      have S : FlJ R bs w.heap.size wb.heap.size u5.ownBlock  wb (wb.alloc (.cells #[.slice (some ⟨g, 0, none⟩) 4 vc, .bool acc] 81)) (q2 + 1) g vc bx acc := by
        refine ⟨hr3.below hal3, by simp, by simp, frz_new wb _ _, by simp, ?_, hb4, hbs, Mv.of_below hal3⟩
        refine ((BxP.keep (g' := u5.ownBlock) hB3 hal3.size (fun k k1 k2 _ => hal3.block k k2) (fun z hz => .inr (.inl (hown z hz).2))).rws).mono (by omega)
      have HF3 := Lib.hid hFO3
      subst hu5
      clear hB2 hB3 hr2 hm2 hr3 hm3 hFO3 b3 hbs hb4 hal3
      go_upto_region 6 with (fail)
      have ST := Lib.hid S
      clear S
      go_cut [29] (fun t wx => ∃ bb, t = .bool bb ∧ (bb = true → 0 < fs.length) ∧ ∃ q, FlJ R bs w.heap.size wb.heap.size (Value.ownBlock (.slice sa fs.length cap)) wb wx q g vc bx acc ∧ q ≤ q2 + 2)
      case first =>
        have S := ST.out
        clear ST
        by_cases h0 : 0 < fs.length
        · have h0i : (0 : Int) < (fs.length : Int) := by omega
          go_wp2_with fail
          refine (pick_any R bs _ _ _ S.rd (by omega) (by omega)).mono ?_
          rintro e w4 ⟨x4, rfl, x40, x41, -, hr4, hm4⟩
          replace S := S.mv' hR (by omega) hr4 hm4
          clear hr4 hm4 x41
          go_wp2_with fail
          go_meet
          exact ⟨_, rfl, fun _ => h0, _, S, by omega⟩
        · go_wp2_with fail
          go_meet
          exact ⟨_, rfl, by simp, _, S, by omega⟩
      case rest =>
        obtain ⟨bb, rfl, hbb, q5, S, hq5⟩ := hcut
        clear ST
        have ST := Lib.hid S
        clear S
        go_upto_if 29 with (fail)
        go_cut [8] (fun _t wx => ∃ q g vc bx acc, FlJ R bs w.heap.size wb.heap.size (Value.ownBlock (.slice sa fs.length cap)) wb wx q g vc bx acc ∧ q ≤ q2 + 6000)
        case first =>
          have S := ST.out
          clear ST
          cases bb
          · go_wp2_with fail
            go_meet
            exact ⟨_, _, _, _, _, S, by omega⟩
          · have h0 := hbb rfl
            obtain ⟨m, hm⟩ : ∃ m, fs.length = m + 1 := ⟨fs.length - 1, by omega⟩
            obtain ⟨rs, hrs, hal⟩ := HF3.out
            obtain ⟨fl, hfl⟩ : ∃ fl, fs[m]? = some fl := ⟨_, List.getElem?_eq_getElem (by omega)⟩
            obtain ⟨rf, hrf, hB, hac⟩ := hal.left hfl
            obtain ⟨hf4, hf40⟩ := HI.out m fl hfl
            obtain ⟨z, hsz⟩ : ∃ z, sa = some ⟨z, 0, none⟩ := by
              rcases OwnSl.form hrs with ⟨_, h⟩ | ⟨z, c, h, _⟩
              · have := hal.1; rw [h] at this; simp at this; omega
              · exact ⟨z, (Value.slice.inj h).1⟩
            subst hsz
            obtain ⟨hz1, hz2⟩ := World.ownsRow.lt hrs z rfl
            have hn' : fs.length = rs.length := hal.1.symm
            have e0 := OwnSl.cell (sz := 2) (enc := RF.enc) (fun _ => rfl) (cap := cap) (n := fs.length) hrs hrf 0 rf.s rfl
            have e1 := OwnSl.cell (sz := 2) (enc := RF.enc) (fun _ => rfl) (cap := cap) (n := fs.length) hrs hrf 1 (.bool rf.acc) rfl
            have hzR : z ≠ R := by omega
            replace e0 := (mvC S.mv z hz2 hzR _).trans e0
            replace e1 := (mvC S.mv z hz2 hzR _).trans e1
            rw [Nat.add_zero] at e0
            obtain ⟨vs, hsl, hvs⟩ := hB
            obtain ⟨ba, bc, hbv, hbl, hbm⟩ : ∃ a c, rf.s = .slice a vs.length c ∧ vs.length ≤ c ∧ c ≤ maxLen := let ⟨a, c, h1, h2, h3, _⟩ := hsl; ⟨a, c, h1, h2, h3⟩
            have hv4 : vs.length = 4 := by rw [hvs.1]; exact hf4
            rw [hbv] at hsl e0
            rw [hv4] at hsl e0
            have HSL := Lib.hid hsl
            have HVS := Lib.hid hvs
            have hne : wb.heap.size ≠ R := by omega
            have hlt := S.lt
            have hzc : z < wc.heap.size := Nat.lt_of_lt_of_le hz2 S.mv.size
            have hal5 : Below wc.heap.size wc (wc.alloc (.cells #[] 61)) := (Below.refl _ _).alloc (Nat.le_refl _) _
            have hsw : SlFr w.heap.size 1 enc1 (wc.alloc (.cells #[] 61)) (.slice ba 4 bc) vs :=
              (hsl.sub (Sb.out _ _ _)).sub (Sb.of (Nat.le_trans S.mv.size hal5.size) (fun k k1 k2 => (hal5.block k (Nat.lt_of_lt_of_le k2 S.mv.size)).trans (S.mv.block k k2 (by omega))))
            obtain ⟨v5, w5, hrun, ho5, hb5⟩ := run_append_copy (sz := 1) (enc := enc1) (by omega) (fun _ => rfl) (P := Tryz.prog) (w := wc.alloc (.cells #[] 61)) 66 66 61 j0 _ 24 Tryz.underlying66 hj hj0 hj1 hj2 rfl ⟨wc.heap.size, 0, none⟩ (litOwn 61 1 enc1 (base := wc.heap.size) (w := wc) (Nat.le_refl _)) hal5.size (v := .slice ba 4 bc) (xs := vs) hsw.at (by omega)
            obtain ⟨g5, c5, rfl, hg5, hg6⟩ : ∃ g c, v5 = .slice (some ⟨g, 0, none⟩) 4 c ∧ wc.heap.size ≤ g ∧ g < w5.heap.size := by
              rcases OwnSl.form ho5 with ⟨_, h⟩ | ⟨g, c, h, h1, h2, _⟩
              · rw [h] at hv4; simp at hv4
              · exact ⟨g, c, by rw [← hv4]; exact h, h1, h2⟩
            have hbw5 : Below wc.heap.size wc w5 := hal5.trans (hb5.mono hal5.size)
            have hz5 := hbw5.size
            have c0 := (hbw5.cell (p := ⟨wb.heap.size, 0, none⟩) hlt).trans S.c0
            have c1 := (hbw5.cell (p := ⟨wb.heap.size, 1, none⟩) hlt).trans S.c1
            have cf := fun j => (hbw5.frozen (p := ⟨wb.heap.size, j, none⟩) hlt).trans (S.frz j)
            have hr5 := S.rd.below hbw5
            have hm5 : Mv R wb.heap.size wb w5 := S.mv.trans (Mv.of_below (hbw5.mono S.mv.size))
            have HO5 := Lib.hid ho5
            have HR5 := Lib.hid hr5
            have HM5 := Lib.hid hm5
            have HN := Lib.hid hm
            have HRS := Lib.hid (And.intro hrs hrf)
            have HF4 := Lib.hid (And.intro hf4 hf40)
            have S5 := Lib.hid S
            clear S hsl hsw ho5 hb5 hr5 hm5 hrs hal hvs hfl hrf hac hbv
            rw [hm]
            go_wp2_with (at_builtin; refine wpList_append_run rfl _ _ 66 rfl rfl rfl hrun ?_)
            have hB6 : Below wb.heap.size w5 (w5.setCell ⟨wb.heap.size, 0, none⟩ (.slice (some ⟨g5, 0, none⟩) 4 c5)) := (Below.refl _ _).setCell (p := ⟨wb.heap.size, 0, none⟩) (Nat.le_refl _) _
            have hr6 := HR5.out.up (hB6.mono (by omega))
            have hm6 : Mv R wb.heap.size wb _ := HM5.out.trans (Mv.of_below hB6)
            have d0 : (w5.setCell ⟨wb.heap.size, 0, none⟩ (.slice (some ⟨g5, 0, none⟩) 4 c5)).cell? ⟨wb.heap.size, 0, none⟩ = some (.slice (some ⟨g5, 0, none⟩) 4 c5) := World.cell?_setCell_same' _ _ _ (by rw [c0]; rfl)
            have d1 : (w5.setCell ⟨wb.heap.size, 0, none⟩ (.slice (some ⟨g5, 0, none⟩) 4 c5)).cell? ⟨wb.heap.size, 1, none⟩ = some (.bool acc) := by rw [World.cell?_setCell_other _ _ _ _ (by simp)]; exact c1
            have df : ∀ j, (w5.setCell ⟨wb.heap.size, 0, none⟩ (.slice (some ⟨g5, 0, none⟩) 4 c5)).frozen? ⟨wb.heap.size, j, none⟩ = false := fun j => by rw [World.frozen?_setCell]; exact cf j
            have ho6 : OwnSl wc.heap.size 61 1 enc1 (w5.setCell ⟨wb.heap.size, 0, none⟩ (.slice (some ⟨g5, 0, none⟩) 4 c5)) (.slice (some ⟨g5, 0, none⟩) 4 c5) vs := OwnSl.keepB HO5.out (fun x x1 x2 _ => Below.heap_setCell _ _ _ _ (by cases x1; simp only; omega))
            obtain ⟨w6, hw6⟩ : ∃ w6, w5.setCell ⟨wb.heap.size, 0, none⟩ (.slice (some ⟨g5, 0, none⟩) 4 c5) = w6 := ⟨_, rfl⟩
            have hz6 : w6.heap.size = w5.heap.size := by rw [← hw6]; simp
            rw [hw6] at hr6 hm6 d0 d1 df ho6 ⊢
            clear hw6 hB6 c0 c1 cf
            refine (pick_any R bs _ _ _ hr6 (by omega) (by omega)).mono ?_
            rintro e w7 ⟨x7, rfl, x70, x71, -, hr7, hm7⟩
            have hx7 := x71 (by omega)
            have hz7 := hm7.size
            obtain ⟨jj, rfl⟩ := Int.eq_ofNat_of_zero_le x70
            have hjj : jj < 4 := by omega
            have l7 : wb.heap.size < w7.heap.size := by omega
            have g7 : g5 < w7.heap.size := by omega
            have c0 := (mvC hm7 wb.heap.size (by omega) hne 0).trans d0
            have c1 := (mvC hm7 wb.heap.size (by omega) hne 1).trans d1
            have cf := fun j => (mvF hm7 wb.heap.size (by omega) hne j).trans (df j)
            have ho7 := OwnSl.mvK ho6 hm7 (by omega)
            have hM7 : Mv R wb.heap.size wb w7 := hm6.trans (hm7.mono (by omega))
            obtain ⟨y7, hy7⟩ : ∃ y, vs[jj]? = some y := ⟨_, List.getElem?_eq_getElem (by omega)⟩
            have d0 := OwnSl.cell (sz := 1) (enc := enc1) (fun _ => rfl) (cap := c5) (n := 4) ho7 hy7 0 y7 rfl
            rw [Nat.mul_one, Nat.add_zero] at d0
            have hfg : ∀ o, w7.frozen? ⟨g5, o, none⟩ = false := by
              rcases OwnSl.form ho7 with ⟨h, _⟩ | ⟨g', c', h, _, _, _, _, hf⟩
              · obtain ⟨h, _⟩ := Value.slice.inj h; cases h
              · obtain ⟨h, _⟩ := Value.slice.inj h; cases h; exact hf
            have hneg : g5 ≠ R := by omega
            have HO7 := Lib.hid ho7
            have HM7 := Lib.hid hM7
            clear hr6 hm6 ho6 hm7 ho7 hM7 x71 df d1
            go_upto_region 9 with (fail)
            refine wp_region_last (CM R bs _ 260 w7) (fun a b => Mv R a.heap.size a b) (bof [BIs (.pointer (some ⟨wb.heap.size, 0, none⟩)), BIs (.pointer (some ⟨wb.heap.size, 0, none⟩)), BIs (.slice (some ⟨g5, 0, none⟩) 4 c5), BIs (.int .i64 (jj : Int)), BIs (.pointer (some ⟨R, 0, none⟩)), BIs (.int .i64 (jj : Int)), (BIs (.int .i64 (top jj))), (FSet w7.heap.size 40), BIs (.pointer (some ⟨g5, jj, none⟩))]) (fun _ _ _ => True) (fun w9 => ∃ wy q a c xs, RdAt R bs wy q ∧ Mv R w7.heap.size w7 wy ∧ OwnSp w7.heap.size wy (.slice a xs.length c) xs ∧ xs.length ≤ 40 ∧ q ≤ q2 + 6000 ∧ w9 = wy.setCell ⟨g5, jj, none⟩ (.slice a xs.length c)) 9 (by kernel_rfl) rfl (fun u => by simp only [frU, Act.put, List.setIfInBounds_toArray, List.set_cons_succ, List.set_cons_zero, Nat.zero_add, Nat.reduceAdd]; exact rfl) (by kernel_rfl) (by kernel_rfl) (fun iz wz wy vz hbz hz => bof_mst [BIs (.pointer (some ⟨wb.heap.size, 0, none⟩)), BIs (.pointer (some ⟨wb.heap.size, 0, none⟩)), BIs (.slice (some ⟨g5, 0, none⟩) 4 c5), BIs (.int .i64 (jj : Int)), BIs (.pointer (some ⟨R, 0, none⟩)), BIs (.int .i64 (jj : Int)), (BIs (.int .i64 (top jj))), (FSet w7.heap.size 40), BIs (.pointer (some ⟨g5, jj, none⟩))] ⟨mst_is _, mst_is _, mst_is _, mst_is _, mst_is _, mst_is _, (mst_is _), (mst_set (by omega)), mst_is _, trivial⟩ iz wz wy vz hbz hz) (CM.start hr7) ?_ ?_; (exact ⟨stSm rfl (fun m u w3 hm hC hd Q K hK => by (go_step; exact hK _ _ rfl hC.same (Mv.refl _ _ _) rfl)), stSm rfl (fun m u w3 hm hC hd Q K hK => by (have hu := bis (w := w3) (hd 0 rfl); rw [hu] at hK ⊢; clear hu; go_step; exact hK _ _ rfl hC.same (Mv.refl _ _ _) rfl)), stSm rfl (fun m u w3 hm hC hd Q K hK => by (have hu := bis (w := w3) (hd 1 rfl); rw [hu] at hK ⊢; clear hu; obtain ⟨q3, hr3, hq3, hM⟩ := id hC; have z0 := (mvC hM wb.heap.size l7 hne 0).trans c0; go_step; exact hK _ _ rfl hC.same (Mv.refl _ _ _) rfl)), stSm rfl (fun m u w3 hm hC hd Q K hK => by (go_step; exact hK _ _ rfl hC.same (Mv.refl _ _ _) rfl)), stSm rfl (fun m u w3 hm hC hd Q K hK => by (go_step; exact hK _ _ rfl hC.same (Mv.refl _ _ _) rfl)), stSm rfl (fun m u w3 hm hC hd Q K hK => by (go_step; exact hK _ _ rfl hC.same (Mv.refl _ _ _) rfl)), stSm rfl (fun m u w3 hm hC hd Q K hK => by (have hu := bis (w := w3) (hd 5 rfl); rw [hu] at hK ⊢; clear hu; obtain ⟨q3, hr3, hq3, hM⟩ := id hC; go_step; refine (specFTop_any jj hjj _).mono ?_; rintro e _ ⟨rfl, rfl⟩; exact hK _ _ rfl hC.same (Mv.refl _ _ _) rfl)), stSm rfl (fun m u w3 hm hC hd Q K hK => by (have hu := bis (w := w3) (hd 4 rfl); rw [hu] at hK ⊢; clear hu; have hu := bis (w := w3) (hd 6 rfl); rw [hu] at hK ⊢; clear hu; obtain ⟨q3, hr3, hq3, hM⟩ := id hC; go_step; refine (drawSet_any R bs _ jj hjj _ hr3 (by omega)).mono ?_; rintro e w4 ⟨v4, xs4, q4, rfl, ho4, hl4, hi4, hr4, hq4, hm4⟩; exact hK _ _ rfl (hC.mv hr4 (by omega) hm4) hm4 (FSet.mk ho4 hM.size hl4))), stSm rfl (fun m u w3 hm hC hd Q K hK => by (have hu := bis (w := w3) (hd 2 rfl); rw [hu] at hK ⊢; clear hu; have hu := bis (w := w3) (hd 3 rfl); rw [hu] at hK ⊢; clear hu; go_step; exact hK _ _ rfl hC.same (Mv.refl _ _ _) rfl)), ⟨rfl, fun m u w3 hm hC hF Q K hK => by (dsimp only at hK ⊢; have hu := bis (w := w3) (hF 8 (by decide)); rw [hu] at hK ⊢; clear hu; obtain ⟨a6, c6, xs6, hu, h6, hl6⟩ := hF 7 (by decide); rw [hu] at hK ⊢; clear hu; obtain ⟨q3, hr3, hq3, hM⟩ := id hC; have z0 := (mvC hM g5 g7 hneg jj).trans d0; have z1 := (mvF hM g5 g7 hneg jj).trans (hfg jj);  go_step; exact hK _ _ rfl ⟨w3, q3, a6, c6, xs6, hr3, hM, h6, hl6, by omega, rfl⟩ (fun _ _ => trivial))⟩⟩); intro u w9 hD _
            obtain ⟨wy, q9, a9, c9, xs9, hr9, hm9, h9, hl9, hq9, rfl⟩ := hD
            have hz9 := hm9.size
            have hoy := OwnSl.mvK HO7.out hm9 (by omega)
            obtain ⟨s1, s2⟩ := OwnSl.storeAt (sz := 1) (enc := enc1) (fun _ => rfl) (by omega) hoy hy7 (j := 0) (c := .slice a9 xs9.length c9) (y' := .slice a9 xs9.length c9) (by decide) rfl
            rw [Nat.mul_one, Nat.add_zero] at s1
            have hB9 : Below g5 wy (wy.setCell ⟨g5, jj, none⟩ (.slice a9 xs9.length c9)) := (Below.refl _ _).setCell (p := ⟨g5, jj, none⟩) (Nat.le_refl _) _
            have hr9' := hr9.up (hB9.mono (by omega))
            have h9' : OwnSp w7.heap.size (wy.setCell ⟨g5, jj, none⟩ (.slice a9 xs9.length c9)) _ xs9 := OwnSl.keepB h9 (fun x _ x2 _ => Below.heap_setCell _ _ _ _ (by simp only; omega))
            have hm9' : Mv R wb.heap.size wb (wy.setCell ⟨g5, jj, none⟩ (.slice a9 xs9.length c9)) := (HM7.out.trans (hm9.mono (by omega))).trans (Mv.of_below (hB9.mono (by omega)))
            have hcl : ∀ o, (wy.setCell ⟨g5, jj, none⟩ (.slice a9 xs9.length c9)).cell? ⟨wb.heap.size, o, none⟩ = w7.cell? ⟨wb.heap.size, o, none⟩ := fun o => (World.cell?_of_block (a := ⟨wb.heap.size, o, none⟩) (hB9.block wb.heap.size (by omega))).trans (mvC hm9 wb.heap.size l7 hne o)
            have hfl2 : ∀ o, (wy.setCell ⟨g5, jj, none⟩ (.slice a9 xs9.length c9)).frozen? ⟨wb.heap.size, o, none⟩ = w7.frozen? ⟨wb.heap.size, o, none⟩ := fun o => (World.frozen?_of_block (a := ⟨wb.heap.size, o, none⟩) (hB9.block wb.heap.size (by omega))).trans (mvF hm9 wb.heap.size l7 hne o)
            have k0 := (hcl 0).trans c0
            have k1 := (hcl 1).trans c1
            have kf := (hfl2 1).trans (cf 1)
            have kfa := fun j => (hfl2 j).trans (cf j)
            have e1' : (wy.setCell ⟨g5, jj, none⟩ (.slice a9 xs9.length c9)).cell? ⟨z, m * 2 + 1, none⟩ = some (.bool rf.acc) := by
              have h1 := OwnSl.cell (sz := 2) (enc := RF.enc) (fun _ => rfl) (cap := cap) (n := fs.length) HRS.out.1 HRS.out.2 1 (.bool rf.acc) rfl
              exact (mvC hm9' z hz2 hzR _).trans h1
            obtain ⟨w9, hw9⟩ : ∃ w9, wy.setCell ⟨g5, jj, none⟩ (.slice a9 xs9.length c9) = w9 := ⟨_, rfl⟩
            rw [hw9] at s1 hr9' h9' hm9' k0 k1 kf kfa e1' ⊢
            have hz9' : w9.heap.size = wy.heap.size := by rw [← hw9]; simp
            have HS1 := Lib.hid s1
            have HR9 := Lib.hid hr9'
            have H9 := Lib.hid h9'
            have HM9 := Lib.hid hm9'
            have KF := Lib.hid kfa
            clear hw9 hcl hfl2 c0 c1 cf hB9 hoy s1 s2 hr9 hm9 h9 hr9' h9' hm9' kfa d0 hfg e0 e1
            go_wp2_with fail
            rw [← HN.out]
            go_meet
            refine ⟨q9, g5, c5, fl.box.set jj xs9, rf.acc, ?_, by omega⟩
            have hB10 : Below wb.heap.size w9 (w9.setCell ⟨wb.heap.size, 1, none⟩ (.bool rf.acc)) := (Below.refl _ _).setCell (p := ⟨wb.heap.size, 1, none⟩) (Nat.le_refl _) _
            have hm10 : Mv R wb.heap.size wb (w9.setCell ⟨wb.heap.size, 1, none⟩ (.bool rf.acc)) := HM9.out.trans (Mv.of_below hB10)
            refine ⟨HR9.out.up (hB10.mono (by omega)), by rw [World.cell?_setCell_other _ _ _ _ (by simp)]; exact k0, World.cell?_setCell_same' _ _ _ (by rw [k1]; rfl), fun j => by rw [World.frozen?_setCell]; exact KF.out j, by simp; omega, ?_, by simpa using HF4.out.1, set_sets HF4.out.2 hl9, hm10⟩
            have hs10 : OwnSl wc.heap.size 61 1 enc1 (w9.setCell ⟨wb.heap.size, 1, none⟩ (.bool rf.acc)) (.slice (some ⟨g5, 0, none⟩) 4 c5) (vs.set jj (.slice a9 xs9.length c9)) := OwnSl.keepB HS1.out (fun x x1 x2 _ => Below.heap_setCell _ _ _ _ (by simp only; omega))
            have h10 : OwnSp w7.heap.size (w9.setCell ⟨wb.heap.size, 1, none⟩ (.bool rf.acc)) (.slice a9 xs9.length c9) xs9 := OwnSl.keepB H9.out (fun x _ x2 _ => Below.heap_setCell _ _ _ _ (by simp only; omega))
            refine ⟨vs.set jj (.slice a9 xs9.length c9), (SlFr.mono (lo := wc.heap.size) (SlFr.sub (OwnSl.fr (sz := 1) (enc := enc1) (fun _ => rfl) hs10) (Sb.into (fun x hx => by cases hx; exact hzc))) (by omega)), All2.set (HVS.out.mono (fun _ _ h => Sps.sub h (Sb.hole hm10.size (fun k k1 k2 k3 => ⟨k3, hm10.block k k2 (by omega)⟩)))) ?_ jj⟩
            exact Sps.mono (Sps.sub (OwnSp.sps h10) (Sb.into (fun x hx => by obtain rfl : z = x := Option.some.inj hx; exact Nat.lt_of_lt_of_le hzc (Nat.le_trans hz5 (by omega))))) (by omega)
        case rest =>
          obtain ⟨q6, g6, vc6, bx6, acc6, S, hq6⟩ := hcut
          clear ST hbb
          have hzc := S.mv.size
          have hlt := S.lt
          obtain ⟨rs, hrs, hal⟩ := HF3.out.mv S.mv (by omega)
          have hn1 : fs.length = rs.length := hal.1.symm
          rw [hn1] at hrs hal hlc ⊢
          have c0 := S.c0
          have c1 := S.c1
          have HRS := Lib.hid hrs
          have HAL := Lib.hid hal
          have HLN := Lib.hid (show rs.length ≤ 6 by have := HL.out; omega)
          have S6 := Lib.hid S
          clear S hrs hal
          go_wp2_with (at_builtin; refine wpList_append_lies _ rfl _ _ 23 rfl w.heap.size 81 i0 _ 2 32 Tryz.underlying23 hi hy0 hy1 hy2 rfl (by decide) _ rs.length (rs.flatMap RF.enc) rfl (World.ownsRow.alloc HRS.out _) ⟨wc.heap.size, 0, none⟩ 1 1 (RF.enc ⟨.slice (some ⟨g6, 0, none⟩) 4 vc6, acc6⟩) rfl rfl (cellsNew wc (RF.enc ⟨.slice (some ⟨g6, 0, none⟩) 4 vc6, acc6⟩) _) ?c2 (by decide) ?c3 ?c4 ?c5 _ rfl ?_)
          case c2 => simp [Value.oneCell']
          case c3 => have := HLN.out; simp only [maxLen]; omega
          case c4 => have := HLN.out; omega
          case c5 => simp; omega
          intro g8 cap8 w8 hown8 hgrow8 hlies8 hlt8
          have hown9 : OwnSl w.heap.size 81 2 RF.enc w8 (.slice (some ⟨g8, 0, none⟩) (rs.length + 1) cap8) (rs ++ [⟨.slice (some ⟨g6, 0, none⟩) 4 vc6, acc6⟩]) := by unfold OwnSl; simpa using hown8
          have hF8 : FsO w.heap.size w8 (.slice (some ⟨g8, 0, none⟩) (rs.length + 1) cap8) (fs ++ [⟨bx6, acc6⟩]) :=
            FsO.push (w := wc) (f := ⟨bx6, acc6⟩) (H := wc.heap.size + 1) HAL.out (by have := S6.out.B; rw [hn1] at this; exact this) rfl (grown_old hgrow8) hown9 (fun z hz => by cases hz; simpa using hlies8) (by omega)
          have hB8 : Below w.heap.size wc w8 := belGrown ((Below.refl _ _).alloc (by omega) _) (World.ownsRow.alloc HRS.out _) hgrow8 (by simp; omega)
          have hr8 : RdAt R bs w8 q6 := S6.out.rd.up (hB8.mono (by omega))
          have hm8 : Mv R w.heap.size w w8 := (hM3.trans (S6.out.mv.mono (by omega))).trans (Mv.of_below hB8)
          have HF8 := Lib.hid hF8
          have HI8 := Lib.hid (HI.out.snoc (f := ⟨bx6, acc6⟩) S6.out.len S6.out.sets)
          clear hown8 hgrow8 hlies8 hlt8 hown9 hF8
          go_wp2
          go_roundw
          case rel => exact ⟨_, k - 1, q6, by go_num, by omega, by omega, HF8, Lib.hid (by have := HL.out; simp; omega), HI8, hr8, by omega, hm8⟩
          case measure => simp [intOf]; omega
    · obtain rfl : k = 0 := by omega
      obtain ⟨sa, cap, rfl, hlc, hcm⟩ := HO.out.fts.form
      unfold maxLen at hcm
      go_wp2_with fail
      refine (odd_any R bs q n _ hr (by omega) (by omega) (by omega)).mono ?_
      rintro e w2 ⟨b2, q2, rfl, hr2, hq2, hm2⟩
      have hz2 := hm2.size
      have HO2 := Lib.hid (HO.out.mv hm2 hR)
      have hm2' : Mv R w.heap.size w w2 := hmr.trans (hm2.mono hzr)
      have HI2 := Lib.hid (show FtOk (fun n => n ≤ 4) fs from fun k f hk => ⟨by rw [(HI.out k f hk).1]; exact Nat.le_refl _, (HI.out k f hk).2⟩)
      clear hr hm2 hmr
      cases b2
      · go_wp2
        go_ret
        exact ⟨_, fs, q2, rfl, HO2.out, by have := HL.out; omega, HI2.out, hr2, by omega, hm2'⟩
      · go_wp2_with fail
        refine (pick_any R bs _ _ _ hr2 (by omega) (by omega)).mono ?_
        rintro e w3 ⟨x3, rfl, a3, b3, -, hr3, hm3⟩
        have hz3 := hm3.size
        have HO3 := Lib.hid (HO2.out.mv hm3 hR)
        have hm3' : Mv R w.heap.size w w3 := hm2'.trans (hm3.mono (by omega))
        clear hr2 hm2' hm3 b3 HO2
        by_cases hx : x3 = 0
        · subst hx
          obtain ⟨rs, hrs, hal⟩ := HO3.out
          have hn1 : fs.length = rs.length := hal.1.symm
          rw [hn1] at hrs hal hlc ⊢
          have HRS := Lib.hid hrs
          have HAL := Lib.hid hal
          have HLN := Lib.hid (show rs.length ≤ 6 by have := HL.out; omega)
          clear hrs hal
          go_wp2_with (at_builtin; refine wpList_append_lies _ rfl _ _ 23 rfl w.heap.size 81 i0 _ 2 32 Tryz.underlying23 hi hy0 hy1 hy2 rfl (by decide) _ rs.length (rs.flatMap RF.enc) rfl (World.ownsRow.alloc HRS.out _) ⟨w3.heap.size, 0, none⟩ 1 1 (RF.enc ⟨.slice none 0 0, false⟩) rfl rfl (cellsNew w3 (RF.enc ⟨.slice none 0 0, false⟩) _) ?c2 (by decide) ?c3 ?c4 ?c5 _ rfl ?_)
          case c2 => simp [Value.oneCell']
          case c3 => have := HLN.out; simp only [maxLen]; omega
          case c4 => have := HLN.out; omega
          case c5 => simp; omega
          intro g8 cap8 w8 hown8 hgrow8 hlies8 hlt8
          have hown9 : OwnSl w.heap.size 81 2 RF.enc w8 (.slice (some ⟨g8, 0, none⟩) (rs.length + 1) cap8) (rs ++ [⟨.slice none 0 0, false⟩]) := by unfold OwnSl; simpa using hown8
          have hF8 : FsO w.heap.size w8 (.slice (some ⟨g8, 0, none⟩) (rs.length + 1) cap8) (fs ++ [⟨[], false⟩]) :=
            FsO.push (w := w3) (f := ⟨[], false⟩) (H := w3.heap.size + 1) HAL.out ⟨[], ⟨none, 0, rfl, by simp, by simp, fun k x h => by simp at h⟩, All2.nil⟩ rfl (grown_old hgrow8) hown9 (fun z hz => by cases hz; simpa using hlies8) (by omega)
          have hB8 : Below w.heap.size w3 w8 := belGrown ((Below.refl _ _).alloc (by omega) _) (World.ownsRow.alloc HRS.out _) hgrow8 (by simp; omega)
          have hr8 := hr3.up (hB8.mono (by omega))
          have hm8 : Mv R w.heap.size w w8 := hm3'.trans (Mv.of_below hB8)
          have HF8 := Lib.hid hF8
          have HI8 := Lib.hid (HI2.out.snoc (f := ⟨[], false⟩) (Nat.zero_le 4) (fun j xs h => by simp at h))
          clear hown8 hgrow8 hlies8 hlt8 hown9 hF8
          go_wp2
          go_ret
          exact ⟨_, _, _, rfl, HF8.out, by have := HL.out; simp; omega, HI8.out, hr8, by omega, hm8⟩
        · have hx' : (x3 == 0) = false := by simpa using hx
          go_wp2_with fail
          go_loopw [5] (fun v wr => ∃ fs, Hid (FsO w.heap.size wr v fs) ∧ fs.length ≤ 61 ∧ Hid (FtOk (fun n => n ≤ 4) fs) ∧ RdAt R bs wr (q2 + 1) ∧ Mv R w.heap.size w wr) (fun v _ => 62 - lenV v)
          case atStart => exact ⟨fs, HO3, by have := HL.out; omega, HI2, hr3, hm3'⟩
          case round =>
            obtain ⟨fs', HO4, hl61, HI4, hr4, hm4⟩ := hrel
            clear HO3 hr3 hm3' HI2
            have hz4 := hm4.size
            obtain ⟨rs, hrs, hal⟩ := HO4.out
            have hn1 : fs'.length = rs.length := hal.1.symm
            obtain ⟨sa', cap', hu5, hlc', hcm'⟩ : ∃ a c, u5 = .slice a rs.length c ∧ rs.length ≤ c ∧ c ≤ maxLen := by rw [← hn1]; exact HO4.out.fts.form
            unfold maxLen at hcm'
            subst hu5
            have hown : ∀ z, (Value.slice sa' rs.length cap').ownBlock = some z → w.heap.size ≤ z ∧ z < wr.heap.size := fun z hz => World.ownsRow.lt hrs z hz
            have HRS := Lib.hid hrs
            have HAL := Lib.hid hal
            clear hrs hal
            by_cases hlt : rs.length ≤ 60
            · have hlti : (rs.length : Int) ≤ 60 := by omega
              have hltn : ¬ (60 : Int) < (rs.length : Int) := by omega
              go_wp2_with fail
              refine (boxAll_any _).mono ?_
              rintro e w5 ⟨v5, rfl, ho5, hb5⟩
              have hz5 := hb5.size
              have hB5 := GRw.bx ho5
              obtain ⟨g5, c5, rfl, hg5, hg6, -, -, -⟩ := hB5.ptr (by decide)
              have HBX := Lib.hid ((hB5.keep (g' := (Value.slice sa' rs.length cap').ownBlock) (Nat.le_refl _) (fun _ _ _ _ => rfl) (fun z hz => .inr (.inl (hown z hz).2))).rws.mono (by omega : w.heap.size ≤ wr.heap.size))
              have HRS5 := Lib.hid (OwnSl.kept HRS.out hb5)
              have HAL5 := Lib.hid (HAL.out.mono (fun (r : RF) (f : Ft) h => (⟨h.1.sub (Sb.hole hb5.size (fun k k1 k2 k3 => ⟨k3, hb5.block k k2⟩)), h.2⟩ : Rws w.heap.size (hole w5 (Value.slice sa' rs.length cap').ownBlock) r.s f.box ∧ r.acc = f.acc)))
              have hr5 := hr4.below hb5
              have hm5 : Mv R w.heap.size w w5 := hm4.trans (Mv.of_below (hb5.mono hz4))
              clear ho5 hb5 hB5 hr4 hm4
              go_wp2_with (at_builtin; refine wpList_append_lies _ rfl _ _ 23 rfl w.heap.size 81 i0 _ 2 32 Tryz.underlying23 hi hy0 hy1 hy2 rfl (by decide) _ rs.length (rs.flatMap RF.enc) rfl (World.ownsRow.alloc HRS5.out _) ⟨w5.heap.size, 0, none⟩ 1 1 (RF.enc ⟨.slice (some ⟨g5, 0, none⟩) 4 c5, false⟩) rfl rfl (cellsNew w5 (RF.enc ⟨.slice (some ⟨g5, 0, none⟩) 4 c5, false⟩) _) ?c2 (by decide) ?c3 ?c4 ?c5 _ rfl ?_)
              case c2 => simp [Value.oneCell']
              case c3 => simp only [maxLen]; omega
              case c4 => omega
              case c5 => simp; omega
              intro g8 cap8 w8 hown8 hgrow8 hlies8 hlt8
              have hown9 : OwnSl w.heap.size 81 2 RF.enc w8 (.slice (some ⟨g8, 0, none⟩) (rs.length + 1) cap8) (rs ++ [⟨.slice (some ⟨g5, 0, none⟩) 4 c5, false⟩]) := by unfold OwnSl; simpa using hown8
              have hF8 : FsO w.heap.size w8 (.slice (some ⟨g8, 0, none⟩) (rs.length + 1) cap8) (fs' ++ [⟨ball, false⟩]) :=
                FsO.push (w := w5) (f := ⟨ball, false⟩) (H := w5.heap.size + 1) HAL5.out HBX.out rfl (grown_old hgrow8) hown9 (fun z hz => by cases hz; simpa using hlies8) (by omega)
              have hB8 : Below w.heap.size w5 w8 := belGrown ((Below.refl _ _).alloc (by omega) _) (World.ownsRow.alloc HRS5.out _) hgrow8 (by simp; omega)
              have hr8 := hr5.up (hB8.mono (by omega))
              have hm8 : Mv R w.heap.size w w8 := hm5.trans (Mv.of_below hB8)
              have HF8 := Lib.hid hF8
              have HI8 := Lib.hid (HI4.out.snoc (f := ⟨ball, false⟩) (Nat.le_refl 4) (fun j xs h => by
                have hk := (List.getElem?_eq_some_iff.1 h).1
                rw [ball_at (by simpa [ball] using hk)] at h
                cases h; simp))
              clear hown8 hgrow8 hlies8 hlt8 hown9 hF8
              go_wp2
              go_roundw
              case rel => exact ⟨_, HF8, by simp; omega, HI8, hr8, hm8⟩
              case measure => simp [lenV]; omega
            · have hltn : (60 : Int) < (rs.length : Int) := by omega
              go_wp2
              go_ret
              exact ⟨_, fs', _, rfl, HO4.out, hl61, HI4.out, hr4, by omega, hm4⟩
end Go.Proofs.YtajcogpfmpehkaaGreatDoor
