/- A drawn test that may be invalid, and lists of tests. -/
import Derived.Test.YtfcbbahlhjdefaaDoorDr
import Derived.Test.YtfcbbahlhjdefaaDoorRsH
namespace Go.Proofs.YtfcbbahlhjdefaaDoor
open Go.RowKit
def OddN (R : Nat) (bs : List Int) (p : Nat) (n : Int) (w : World) (e : Ending) (w' : World) : Prop :=
  ∃ (b : Bool) (q : Nat), e = .returned (.bool b) ∧ (n = 0 → b = false) ∧ (n = 1 → b = true) ∧ RdAt R bs w' q ∧ q ≤ p + 1 ∧ Mv R w.heap.size w w'
set_option maxHeartbeats 1000000 in
theorem odd_nb (R : Nat) (bs : List Int) (p : Nat) (n : Int) (w : World) (h : RdAt R bs w p) (hp : p ≤ 1000000) (hn : n = 0 ∨ n = 1) :
    Calls Tryd.prog 42 #[.pointer (some ⟨R, 0, none⟩), .int .i64 n] w (OddN R bs p n w) := by
  rcases hn with rfl | rfl
  · go_enter Tryd.func42, Tryd.ntmps42
    go_wp2
    go_ret
    exact ⟨_, _, rfl, fun _ => rfl, fun e => absurd e (by decide), h, by omega, Mv.refl _ _ _⟩
  · go_enter Tryd.func42, Tryd.ntmps42
    go_wp2_with (go_at_call 26; refine (pick_any R bs p 1 w h hp (by omega)).mono ?_; rintro e w1 ⟨x, rfl, hx0, hx1, -, hr, hm⟩; obtain rfl : x = 0 := (by have := hx1 (by omega); omega))
    go_ret
    exact ⟨_, _, rfl, fun e => absurd e (by decide), fun _ => rfl, hr, Nat.le_refl _, hm⟩
theorem te_no {f lo hi : Int} {nt : Bool} (h : ∀ k : Nat, f = k → k < 4 → 0 ≤ lo → lo ≤ hi → hi ≤ top k → False) : Te.ok ⟨f, lo, hi, nt⟩ = false := by
  cases e : Te.ok ⟨f, lo, hi, nt⟩
  · rfl
  · exfalso
    obtain ⟨k, hk, h4⟩ := tvalid1_fld (f := f) (lo := lo) (hi := hi) e
    have h2 : tvalid1 (k : Int) lo hi = true := by rw [← hk]; exact e
    obtain ⟨a, b, c⟩ := tvalid1_iff h2
    exact h k hk h4 a b c
def DrawnTeX (R : Nat) (bs : List Int) (p : Nat) (w : World) (e : Ending) (w' : World) : Prop :=
  ∃ (f lo hi : Int) (nt : Bool) (q : Nat), e = .returned (.agg #[.int .i64 f, .int .i64 lo, .int .i64 hi, .bool nt]) ∧ Te.ok ⟨f, lo, hi, nt⟩ = false ∧ RdAt R bs w' q ∧ q ≤ p + 110 ∧ Mv R w.heap.size w w'
set_option maxHeartbeats 4000000 in
set_option maxRecDepth 100000 in
theorem drawTe1_any (R : Nat) (bs : List Int) (p : Nat) (w : World) (h : RdAt R bs w p) (hp : p ≤ 800000) :
    Calls Tryd.prog 71 #[.pointer (some ⟨R, 0, none⟩), .int .i64 1] w (DrawnTeX R bs p w) := by
  have hR := h.lt
  have hA0 := Tq.new w 0 0 0 false 108
  have hr0 := h.below ((Below.refl _ _).alloc (Nat.le_refl _) (.cells #[.int .i64 0, .int .i64 0, .int .i64 0, .bool false] 108))
  have hm0 : Mv R w.heap.size w (w.alloc (.cells #[.int .i64 0, .int .i64 0, .int .i64 0, .bool false] 108)) := (Mv.refl _ _ _).alloc (Nat.le_refl _) _
  go_enter Tryd.func71, Tryd.ntmps71
  go_wp2_with fail
  refine (pick_any R bs p _ _ hr0 (by omega) (by omega)).mono ?_
  rintro e w1 ⟨x1, rfl, x10, x11, -, hr1, hm1⟩
  have hx1 := x11 (by omega)
  have hz1 := hm1.size; simp at hz1
  have hA1 := hA0.mv hm1 (by simp) (by omega)
  replace hm1 := hm0.trans (hm1.mono (by simp))
  obtain ⟨f, rfl⟩ := Int.eq_ofNat_of_zero_le x10
  clear hA0 hr0 hm0 x11
  go_wp2_with fail
  refine (pick_any R bs _ _ _ hr1 (by omega) (by omega)).mono ?_
  rintro e w2 ⟨x2, rfl, x20, x21, -, hr2, hm2⟩
  have hx2 := x21 (by omega)
  have hz2 := hm2.size
  have hA2 := hA1.mv hm2 (by omega) (by omega)
  replace hm2 := hm1.trans (hm2.mono (by omega))
  obtain ⟨nt, hnt⟩ : ∃ nt : Bool, (x2 == 0) = nt := ⟨_, rfl⟩
  clear hA1 hr1 hm1 x21
  go_wp2_with fail
  refine (specFTop_any f (by omega) _).mono ?_
  rintro e _ ⟨rfl, rfl⟩
  have hT2 := Tq.new w2 f 0 0 nt 108
  have hal2 : Below w2.heap.size w2 (w2.alloc (.cells #[.int .i64 f, .int .i64 0, .int .i64 0, .bool nt] 108)) := (Below.refl _ _).alloc (Nat.le_refl _) _
  have hA3 := hA2.old (.cells #[.int .i64 f, .int .i64 0, .int .i64 0, .bool nt] 108)
  obtain ⟨t0, t1⟩ := top_le (n := f) (by omega)
  have ht2 : f < 2 → 30 ≤ top f := fun h => by rcases (by omega : f = 0 ∨ f = 1) with rfl | rfl <;> simp [top]
  have HC := Lib.hid (fun q w h hp => drawSp_any R bs q f (by omega) w h hp)
  obtain ⟨T, hT⟩ : ∃ T, top f = T := ⟨_, rfl⟩
  have HT := Lib.hid hT
  rw [hT] at t0 t1 ht2 HC ⊢
  clear hT
  go_wp2_with fail
  refine (HC.out _ _ (hr2.below hal2) (by omega)).mono ?_
  rintro e wb ⟨v0, v1, q3, rfl, g0, g1, g2, hr3, hq3, hm3⟩
  have hz3 := hm3.size
  simp at hz3
  have S : TsAll R bs w w2.heap.size wb.heap.size (wb.alloc (.cells #[.int .i64 v0, .int .i64 v1] 64)) q3 f nt v0 v1 :=
    ⟨hr3.below ((Below.refl _ _).alloc (Nat.le_refl _) _), (hT2.mv hm3 (by simp) (by omega)).old _, Two.new wb _ _ _, (hA3.mv hm3 (by simp; omega) (by omega)).old _, ((hm2.alloc (by omega) _).trans (hm3.mono (by simp; omega))).alloc (by omega) _, hR, by omega, by omega⟩
  clear hT2 hal2 hA3 hr2 hA2 hm2 hr3 hm3 HC
  have ST := Lib.hid (show TsSt R bs w w2.heap.size wb.heap.size f nt T (p + 52) _ from ⟨v0, v1, q3, S, g0, g1, g2, by omega⟩)
  clear S g0 g1 g2
  have hR' : R < w2.heap.size := by omega
  go_upto_region 4 with (fail)
  go_cut [27] (fun t wx => ∃ bb, t = .bool bb ∧ (bb = true → 30 ≤ T) ∧ TsSt R bs w w2.heap.size wb.heap.size f nt T (p + 53) wx)
  case first =>
    obtain ⟨u0, u1, q, S, g0, g1, g2, hq⟩ := ST.out
    clear ST
    obtain ⟨l0, c0, c1, c2, c3, cf⟩ := id S.T
    by_cases hf : f < 2
    · have hfi : (f : Int) < 2 := by omega
      go_wp2_with fail
      refine (pick_any R bs _ _ _ S.rd (by omega) (by omega)).mono ?_
      rintro e w4 ⟨x4, rfl, x40, x41, -, hr4, hm4⟩
      replace S := S.mv' hr4 hm4
      clear hr4 hm4 x41
      go_wp2_with fail
      go_meet
      exact ⟨_, rfl, fun _ => ht2 hf, u0, u1, _, S, g0, g1, g2, by omega⟩
    · have hfi : ¬ (f : Int) < 2 := by omega
      go_wp2_with fail
      go_meet
      exact ⟨_, rfl, fun h => by simp at h, u0, u1, _, S, g0, g1, g2, by omega⟩
  case rest =>
    obtain ⟨bb, rfl, hbb, hst⟩ := hcut
    clear ST
    have ST := Lib.hid hst
    clear hst
    go_upto_if 27 with (fail)
    go_cut [] (fun wx => TsSt R bs w w2.heap.size wb.heap.size f nt T (p + 70) wx)
    case first =>
      obtain ⟨u0, u1, q, S, g0, g1, g2, hq⟩ := ST.out
      clear ST
      cases bb
      · go_wp2_with fail
        go_meet
        exact ⟨u0, u1, _, S, g0, g1, g2, by omega⟩
      · have hT := hbb rfl
        go_wp2_with fail
        refine (pick_any R bs _ _ _ S.rd (by omega) (by omega)).mono ?_
        rintro e w4 ⟨x4, rfl, x40, x41, -, hr4, hm4⟩
        have hx4 := x41 (by omega)
        replace S := S.mv' hr4 hm4
        clear hr4 hm4 x41
        obtain ⟨l0, c0, c1, cf⟩ := id S.S
        go_upto_region 6 with (fail)
        replace S := S.st (wy := (w4.setCell ⟨wb.heap.size, 0, none⟩ (.int .i64 x4)).setCell ⟨wb.heap.size, 1, none⟩ (.int .i64 0)) (((Below.refl _ _).setCell (p := ⟨wb.heap.size, 0, none⟩) (Nat.le_refl _) _).setCell (p := ⟨wb.heap.size, 1, none⟩) (Nat.le_refl _) _) ((S.S.set0 x4).set1 0)
        obtain ⟨wx, hwx⟩ : ∃ wx, (w4.setCell ⟨wb.heap.size, 0, none⟩ (.int .i64 x4)).setCell ⟨wb.heap.size, 1, none⟩ (.int .i64 0) = wx := ⟨_, rfl⟩
        rw [hwx] at S ⊢
        clear hwx l0 c0 c1 cf
        obtain ⟨l0, c0, c1, cf⟩ := id S.S
        have hne : wb.heap.size ≠ R := by omega
        refine wp_region_last (CM R bs _ 1 wx) (fun a b => Mv R a.heap.size a b) (bof [BIs (.pointer (some ⟨wb.heap.size, 0, none⟩)), BIs (.int .i64 x4), BIs (.pointer (some ⟨R, 0, none⟩)), BV (fun v => ∃ x : Int, v = .int .i64 x ∧ 0 ≤ x ∧ x < 8), BV (fun v => ∃ y, v = .int .i64 y ∧ x4 ≤ y ∧ y ≤ 30), BIs (.pointer (some ⟨wb.heap.size, 1, none⟩))]) (fun _ _ _ => True) (fun w9 => ∃ y wy q, TsAll R bs w w2.heap.size wb.heap.size wy q f nt x4 0 ∧ x4 ≤ y ∧ y ≤ 30 ∧ q ≤ p + 70 ∧ w9 = wy.setCell ⟨wb.heap.size, 1, none⟩ (.int .i64 y)) 6 (by kernel_rfl) rfl (fun u => by simp only [frU, Act.put, List.setIfInBounds_toArray, List.set_cons_succ, List.set_cons_zero, Nat.zero_add, Nat.reduceAdd]; exact rfl) (by kernel_rfl) (by kernel_rfl) (fun iz wz wy vz hbz hz => bof_mst [BIs (.pointer (some ⟨wb.heap.size, 0, none⟩)), BIs (.int .i64 x4), BIs (.pointer (some ⟨R, 0, none⟩)), BV (fun v => ∃ x : Int, v = .int .i64 x ∧ 0 ≤ x ∧ x < 8), BV (fun v => ∃ y, v = .int .i64 y ∧ x4 ≤ y ∧ y ≤ 30), BIs (.pointer (some ⟨wb.heap.size, 1, none⟩))] ⟨mst_is _, mst_is _, mst_is _, mst_v _, mst_v _, mst_is _, trivial⟩ iz wz wy vz hbz hz) (CM.start S.rd) ?_ ?_; (exact ⟨stSm rfl (fun m u w3 hm hC hd Q K hK => by (go_step; exact hK _ _ rfl hC.same (Mv.refl _ _ _) rfl)), stSm rfl (fun m u w3 hm hC hd Q K hK => by (have hu := bis (w := w3) (hd 0 rfl); rw [hu] at hK ⊢; clear hu; obtain ⟨q3, hr3, hq3, hM⟩ := id hC; have z0 := (mvC hM wb.heap.size l0 hne 0).trans c0; go_step; exact hK _ _ rfl hC.same (Mv.refl _ _ _) rfl)), stSm rfl (fun m u w3 hm hC hd Q K hK => by (go_step; exact hK _ _ rfl hC.same (Mv.refl _ _ _) rfl)), stSm rfl (fun m u w3 hm hC hd Q K hK => by (have hu := bis (w := w3) (hd 2 rfl); rw [hu] at hK ⊢; clear hu; obtain ⟨q3, hr3, hq3, hM⟩ := id hC; go_step; refine (pick_any R _ _ _ _ hr3 (by omega) (by omega)).mono ?_; rintro e w4 ⟨x, rfl, hx0, hx1, hx2, hr4, hm4⟩; exact hK _ _ rfl (hC.mv hr4 (by omega) hm4) hm4 ⟨x, rfl, hx0, hx1 (by omega)⟩)), stSm rfl (fun m u w3 hm hC hd Q K hK => by (have hu := bis (w := w3) (hd 1 rfl); rw [hu] at hK ⊢; clear hu; obtain ⟨x, hu, hx0, hx1⟩ := hd 3 rfl; rw [hu] at hK ⊢; clear hu; go_step; exact hK _ _ rfl hC.same (Mv.refl _ _ _) ⟨_, rfl, by omega, by omega⟩)), stSm rfl (fun m u w3 hm hC hd Q K hK => by (go_step; exact hK _ _ rfl hC.same (Mv.refl _ _ _) rfl)), ⟨rfl, fun m u w3 hm hC hF Q K hK => by (dsimp only at hK ⊢; have hu := bis (w := w3) (hF 5 (by decide)); rw [hu] at hK ⊢; clear hu; obtain ⟨y, hu, hy0, hy1⟩ := hF 4 (by decide); rw [hu] at hK ⊢; clear hu; obtain ⟨q3, hr3, hq3, hM⟩ := id hC; have z0 := (mvC hM wb.heap.size l0 hne 1).trans c1; have z1 := (mvF hM wb.heap.size l0 hne 1).trans (cf 1);  go_step; exact hK _ _ rfl ⟨y, w3, q3, S.mv' hr3 hM, hy0, hy1, by omega, rfl⟩ (fun _ _ => trivial))⟩⟩); intro u w9 hD _
        obtain ⟨y, wy, q', S, hy0, hy1, hq', rfl⟩ := hD
        replace S := S.st (wy := wy.setCell ⟨wb.heap.size, 1, none⟩ (.int .i64 y)) ((Below.refl _ _).setCell (p := ⟨wb.heap.size, 1, none⟩) (Nat.le_refl _) _) (S.S.set1 y)
        go_wp2_with fail
        go_meet
        exact ⟨x4, y, _, S, by omega, by omega, by omega, hq'⟩
    case rest =>
      clear ST hbb
      obtain ⟨u0, u1, q, S, g0, g1, g2, hq⟩ := hcut
      go_upto_region 7 with (fail)
      obtain ⟨l0, c0, c1, cf⟩ := id S.S
      have hne : wb.heap.size ≠ R := by omega
      go_wp2_with fail
      refine (pick_any R bs _ _ _ S.rd (by omega) (by omega)).mono ?_
      rintro e w4 ⟨x4, rfl, x40, x41, -, hr4, hm4⟩
      replace S := S.mv' hr4 hm4
      clear hr4 hm4 x41 l0 c0 c1 cf
      have ST := Lib.hid S
      clear S
      go_upto_if 39 with (fail)
      go_cut [] (fun wx => TsSt R bs w w2.heap.size wb.heap.size f nt T (p + 90) wx)
      case first =>
        have S := ST.out
        clear ST
        obtain ⟨l0, c0, c1, cf⟩ := id S.S
        by_cases hx : x4 = 0
        · subst hx
          go_wp2_with fail
          refine wp_region_last (CM R bs _ 1 w4) (fun a b => Mv R a.heap.size a b) (bof [BIs (.int .i64 T), BIs (.agg #[.int .i64 0, .int .i64 T]), BIs (.pointer (some ⟨wb.heap.size, 1, none⟩)), BIs (.int .i64 u1), BIs (.agg #[.int .i64 0, .int .i64 u1]), BIs (.pointer (some ⟨wb.heap.size, 0, none⟩)), BIs (.int .i64 u0), BIs (.int .i64 T), BIs (.agg #[.int .i64 u0, .int .i64 T]), (FS3 R 3 T), BIs (.pointer (some ⟨R, 0, none⟩)), BV (fun v => ∃ x : Int, v = .int .i64 x ∧ 0 ≤ x ∧ x < 3), (FA3 R T), (BV (fun v => ∃ x y : Int, v = .agg #[.int .i64 x, .int .i64 y] ∧ 0 ≤ x ∧ x ≤ y ∧ y ≤ T))]) (fun _ _ _ => True) (fun w9 => ∃ x y wy q, TsAll R bs w w2.heap.size wb.heap.size wy q f nt u0 u1 ∧ 0 ≤ x ∧ x ≤ y ∧ y ≤ T ∧ q ≤ p + 90 ∧ w9 = (wy.setCell ⟨wb.heap.size, 0, none⟩ (.int .i64 x)).setCell ⟨wb.heap.size, 1, none⟩ (.int .i64 y)) 14 (by kernel_rfl) rfl (fun u => by simp only [frU, Act.put, List.setIfInBounds_toArray, List.set_cons_succ, List.set_cons_zero, Nat.zero_add, Nat.reduceAdd]; exact rfl) (by kernel_rfl) (by kernel_rfl) (fun iz wz wy vz hbz hz => bof_mst [BIs (.int .i64 T), BIs (.agg #[.int .i64 0, .int .i64 T]), BIs (.pointer (some ⟨wb.heap.size, 1, none⟩)), BIs (.int .i64 u1), BIs (.agg #[.int .i64 0, .int .i64 u1]), BIs (.pointer (some ⟨wb.heap.size, 0, none⟩)), BIs (.int .i64 u0), BIs (.int .i64 T), BIs (.agg #[.int .i64 u0, .int .i64 T]), (FS3 R 3 T), BIs (.pointer (some ⟨R, 0, none⟩)), BV (fun v => ∃ x : Int, v = .int .i64 x ∧ 0 ≤ x ∧ x < 3), (FA3 R T), (BV (fun v => ∃ x y : Int, v = .agg #[.int .i64 x, .int .i64 y] ∧ 0 ≤ x ∧ x ≤ y ∧ y ≤ T))] ⟨mst_is _, mst_is _, mst_is _, mst_is _, mst_is _, mst_is _, mst_is _, mst_is _, mst_is _, (mst_s3), mst_is _, mst_v _, (mst_a3), (mst_v _), trivial⟩ iz wz wy vz hbz hz) (CM.start S.rd) ?_ ?_; (exact ⟨stSm rfl (fun m u w3 hm hC hd Q K hK => by (go_step; exact hK _ _ rfl hC.same (Mv.refl _ _ _) rfl)), stSm rfl (fun m u w3 hm hC hd Q K hK => by (have hu := bis (w := w3) (hd 0 rfl); rw [hu] at hK ⊢; clear hu; go_step; exact hK _ _ rfl hC.same (Mv.refl _ _ _) rfl)), stSm rfl (fun m u w3 hm hC hd Q K hK => by (go_step; exact hK _ _ rfl hC.same (Mv.refl _ _ _) rfl)), stSm rfl (fun m u w3 hm hC hd Q K hK => by (have hu := bis (w := w3) (hd 2 rfl); rw [hu] at hK ⊢; clear hu; obtain ⟨q3, hr3, hq3, hM⟩ := id hC; have z0 := (mvC hM wb.heap.size l0 hne 1).trans c1; go_step; exact hK _ _ rfl hC.same (Mv.refl _ _ _) rfl)), stSm rfl (fun m u w3 hm hC hd Q K hK => by (have hu := bis (w := w3) (hd 3 rfl); rw [hu] at hK ⊢; clear hu; go_step; exact hK _ _ rfl hC.same (Mv.refl _ _ _) rfl)), stSm rfl (fun m u w3 hm hC hd Q K hK => by (go_step; exact hK _ _ rfl hC.same (Mv.refl _ _ _) rfl)), stSm rfl (fun m u w3 hm hC hd Q K hK => by (have hu := bis (w := w3) (hd 5 rfl); rw [hu] at hK ⊢; clear hu; obtain ⟨q3, hr3, hq3, hM⟩ := id hC; have z0 := (mvC hM wb.heap.size l0 hne 0).trans c0; go_step; exact hK _ _ rfl hC.same (Mv.refl _ _ _) rfl)), stSm rfl (fun m u w3 hm hC hd Q K hK => by (go_step; exact hK _ _ rfl hC.same (Mv.refl _ _ _) rfl)), stSm rfl (fun m u w3 hm hC hd Q K hK => by (have hu := bis (w := w3) (hd 6 rfl); rw [hu] at hK ⊢; clear hu; have hu := bis (w := w3) (hd 7 rfl); rw [hu] at hK ⊢; clear hu; go_step; exact hK _ _ rfl hC.same (Mv.refl _ _ _) rfl)), stSm rfl (fun m u w3 hm hC hd Q K hK => by (have hu := bis (w := w3) (hd 1 rfl); rw [hu] at hK ⊢; clear hu; have hu := bis (w := w3) (hd 4 rfl); rw [hu] at hK ⊢; clear hu; have hu := bis (w := w3) (hd 8 rfl); rw [hu] at hK ⊢; clear hu; obtain ⟨q3, hr3, hq3, hM⟩ := id hC; go_step; have hal3 := fun o => (Below.refl w3.heap.size w3).alloc (Nat.le_refl _) o; have hlt3 := hr3.lt; refine hK _ _ rfl (hC.below (hal3 _)) (Mv.of_below (hal3 _)) ⟨_, rfl, by simp, by omega, fun j hj => ?_⟩; match j, hj with | 0, _ => exact ⟨0, T, by simp, by simp, by omega, by omega, by omega⟩ | 1, _ => exact ⟨0, u1, by simp, by simp, by omega, by omega, by omega⟩ | 2, _ => exact ⟨u0, T, by simp, by simp, by omega, by omega, by omega⟩ | j + 3, hj => exact absurd hj (by omega))), stSm rfl (fun m u w3 hm hC hd Q K hK => by (go_step; exact hK _ _ rfl hC.same (Mv.refl _ _ _) rfl)), stSm rfl (fun m u w3 hm hC hd Q K hK => by (have hu := bis (w := w3) (hd 10 rfl); rw [hu] at hK ⊢; clear hu; obtain ⟨q3, hr3, hq3, hM⟩ := id hC; go_step; refine (pick_any R _ _ _ _ hr3 (by omega) (by omega)).mono ?_; rintro e w4 ⟨x, rfl, hx0, hx1, hx2, hr4, hm4⟩; exact hK _ _ rfl (hC.mv hr4 (by omega) hm4) hm4 ⟨x, rfl, hx0, hx1 (by omega)⟩)), stSm rfl (fun m u w3 hm hC hd Q K hK => by (obtain ⟨q3, hr3, hq3, hM⟩ := id hC; obtain ⟨x, hu, hx0, hx1⟩ := hd 11 rfl; rw [hu] at hK ⊢; clear hu; obtain ⟨nx, rfl⟩ := Int.eq_ofNat_of_zero_le hx0; obtain ⟨b, hu, hb1, hb2, hbc⟩ := hd 9 rfl; rw [hu] at hK ⊢; clear hu; go_step; refine hK _ _ rfl hC.same (Mv.refl _ _ _) ⟨b, _, rfl, hb1, hb2, ?_⟩; (try simp only [Nat.zero_add]); exact hbc nx (by omega))), stSm rfl (fun m u w3 hm hC hd Q K hK => by (obtain ⟨q3, hr3, hq3, hM⟩ := id hC; obtain ⟨b, o, hu, hb1, hb2, x, y, e0, e1, k0, k1, k2⟩ := hd 12 rfl; rw [hu] at hK ⊢; clear hu; go_step; exact hK _ _ rfl hC.same (Mv.refl _ _ _) ⟨x, y, rfl, k0, k1, k2⟩)), ⟨rfl, fun m u w3 hm hC hF Q K hK => by (dsimp only at hK ⊢; obtain ⟨x, y, hu, k0, k1, k2⟩ := hF 13 (by decide); rw [hu] at hK ⊢; clear hu; obtain ⟨q3, hr3, hq3, hM⟩ := id hC; have z0 := (mvC hM wb.heap.size l0 hne 0).trans c0; have z1 := (mvF hM wb.heap.size l0 hne 0).trans (cf 0); have z2 := (mvC hM wb.heap.size l0 hne 1).trans c1; have z3 := (mvF hM wb.heap.size l0 hne 1).trans (cf 1);  go_step; exact hK _ _ rfl ⟨x, y, w3, q3, S.mv' hr3 hM, k0, k1, k2, by omega, rfl⟩ (fun _ _ => trivial))⟩⟩); intro u w9 hD _
          obtain ⟨x, y, wy, q', S, k0, k1, k2, hq', rfl⟩ := hD
          replace S := S.st (wy := (wy.setCell ⟨wb.heap.size, 0, none⟩ (.int .i64 x)).setCell ⟨wb.heap.size, 1, none⟩ (.int .i64 y)) (((Below.refl _ _).setCell (p := ⟨wb.heap.size, 0, none⟩) (Nat.le_refl _) _).setCell (p := ⟨wb.heap.size, 1, none⟩) (Nat.le_refl _) _) ((S.S.set0 x).set1 y)
          go_wp2_with fail
          go_meet
          exact ⟨x, y, _, S, k0, k1, k2, hq'⟩
        · have hx' : (x4 == 0) = false := by simpa using hx
          go_wp2_with fail
          go_meet
          exact ⟨u0, u1, _, S, g0, g1, g2, by omega⟩
      case rest =>
        clear ST
        obtain ⟨v0, v1, q9, S, k0, k1, k2, hq9⟩ := hcut
        obtain ⟨l0, c0, c1, cf⟩ := id S.S
        obtain ⟨m0, d0, d1, d2, d3, df⟩ := id S.T
        have hB : Below w2.heap.size wc ((wc.setCell ⟨w2.heap.size, 1, none⟩ (.int .i64 v0)).setCell ⟨w2.heap.size, 2, none⟩ (.int .i64 v1)) := ((Below.refl _ _).setCell (p := ⟨w2.heap.size, 1, none⟩) (Nat.le_refl _) _).setCell (p := ⟨w2.heap.size, 2, none⟩) (Nat.le_refl _) _
        have T' := S.T.set12 v0 v1
        have A' := (S.A.far (p := ⟨w2.heap.size, 1, none⟩) (by simp only; omega) (.int .i64 v0)).far (p := ⟨w2.heap.size, 2, none⟩) (by simp only; omega) (.int .i64 v1)
        have R' := S.rd.up (hB.mono (by omega))
        have M' : Mv R w.heap.size w _ := S.mv.trans (Mv.of_below (hB.mono (by omega)))
        obtain ⟨wd, hwd⟩ : ∃ wd, (wc.setCell ⟨w2.heap.size, 1, none⟩ (.int .i64 v0)).setCell ⟨w2.heap.size, 2, none⟩ (.int .i64 v1) = wd := ⟨_, rfl⟩
        rw [hwd] at T' A' R' M'
        go_wp2_with fail
        clear hwd S hB l0 c0 c1 cf m0 d0 d1 d2 d3 df
        have hzd := M'.size
        have l0 := T'.lt
        refine (odd_nb R bs _ _ _ R' (by omega) (.inr rfl)).mono ?_
        rintro e we ⟨bo, qo, rfl, -, hbo, hro, hqo, hmo⟩
        have T' := T'.mv hmo l0 (by omega)
        have A' := A'.mv hmo (by omega) (by omega)
        have hze := hmo.size
        replace hro := hro
        replace M' := M'.trans (hmo.mono hzd)
        clear R' hmo
        cases bo
        · exact absurd (hbo rfl) (by simp)
        · go_wp2_with fail
          refine (pick_any R bs _ _ _ hro (by omega) (by omega)).mono ?_
          rintro e wf ⟨x5, rfl, x50, x51, -, hrf, hmf⟩
          have hx5 := x51 (by omega)
          have l0 := T'.lt
          have T' := T'.mv hmf l0 (by omega)
          have A' := A'.mv hmf (by omega) (by omega)
          have hzf := hmf.size
          replace M' := M'.trans (hmf.mono (by omega))
          clear hro hmf x51
          rcases (by omega : x5 = 0 ∨ x5 = 1 ∨ x5 = 2) with rfl | rfl | rfl
          · have hrg := hrf.below ((Below.refl wf.heap.size wf).alloc (Nat.le_refl _) (.cells #[.int .i64 (-1), .int .i64 4] 3))
            have T' := T'.old (.cells #[.int .i64 (-1), .int .i64 4] 3)
            have A' := A'.old (.cells #[.int .i64 (-1), .int .i64 4] 3)
            replace M' := M'.alloc (o := (.cells #[.int .i64 (-1), .int .i64 4] 3)) (by omega)
            have y0 : (wf.alloc (.cells #[.int .i64 (-1), .int .i64 4] 3)).cell? ⟨wf.heap.size, 0, none⟩ = some (.int .i64 (-1)) := by simp
            have y1 : (wf.alloc (.cells #[.int .i64 (-1), .int .i64 4] 3)).cell? ⟨wf.heap.size, 1, none⟩ = some (.int .i64 4) := by simp
            have yl : wf.heap.size < (wf.alloc (.cells #[.int .i64 (-1), .int .i64 4] 3)).heap.size := by simp
            obtain ⟨wg, hwg⟩ : ∃ wg, wf.alloc (.cells #[.int .i64 (-1), .int .i64 4] 3) = wg := ⟨_, rfl⟩
            rw [hwg] at T' A' hrg M' y0 y1 yl
            go_wp2_with fail
            clear hwg
            refine (pick_any R bs _ _ _ hrg (by omega) (by omega)).mono ?_
            rintro e wh ⟨x6, rfl, x60, x61, -, hrh, hmh⟩
            have hx6 := x61 (by omega)
            have l0 := T'.lt
            have T' := T'.mv hmh l0 (by omega)
            have A' := A'.mv hmh (by omega) (by omega)
            have hzh := hmh.size
            have HM := Lib.hid (M'.trans (hmh.mono (by omega)))
            have HR := Lib.hid hrh
            replace y0 := (mvC hmh wf.heap.size yl (by omega) 0).trans y0
            replace y1 := (mvC hmh wf.heap.size yl (by omega) 1).trans y1
            clear M' hrh hmh x61 hrg
            rcases (by omega : x6 = 0 ∨ x6 = 1) with rfl | rfl
            · obtain ⟨l0, c0, c1, c2, c3, cf⟩ := T'
              obtain ⟨m0, d0, d1, d2, d3, df⟩ := A'
              have cf0 := cf 0
              go_wp2_with fail
              exact bodyPost_ret (v := .agg #[.int .i64 (-1), .int .i64 v0, .int .i64 v1, .bool nt]) (by simp [results, Tryd.results71, go_sem, d0, d1, d2, d3]) rfl ⟨_, _, _, nt, _, rfl, te_no (fun k e _ _ _ _ => by omega), HR.out.up (by (repeat' (first | with_reducible exact Below.refl _ _ | with_reducible assumption | with_reducible refine Below.setCell ?_ ?_ _ | with_reducible refine Below.alloc ?_ ?_ _ | with_reducible refine Below.drew ?_ | with_reducible refine belDrewN ?_ _ | with_reducible refine Below.trans ?_ (Below.mono (by assumption) ?_) | omega | (simp; omega) | (simp; done)))), by omega, ((((HM.out.setCell (p := ⟨w2.heap.size, 0, none⟩) (by simp only; omega) _).setCell (by simp) _).setCell (by simp) _).setCell (by simp) _).setCell (by simp) _⟩
            · obtain ⟨l0, c0, c1, c2, c3, cf⟩ := T'
              obtain ⟨m0, d0, d1, d2, d3, df⟩ := A'
              have cf0 := cf 0
              go_wp2_with fail
              exact bodyPost_ret (v := .agg #[.int .i64 4, .int .i64 v0, .int .i64 v1, .bool nt]) (by simp [results, Tryd.results71, go_sem, d0, d1, d2, d3]) rfl ⟨_, _, _, nt, _, rfl, te_no (fun k e h4 _ _ _ => by omega), HR.out.up (by (repeat' (first | with_reducible exact Below.refl _ _ | with_reducible assumption | with_reducible refine Below.setCell ?_ ?_ _ | with_reducible refine Below.alloc ?_ ?_ _ | with_reducible refine Below.drew ?_ | with_reducible refine belDrewN ?_ _ | with_reducible refine Below.trans ?_ (Below.mono (by assumption) ?_) | omega | (simp; omega) | (simp; done)))), by omega, ((((HM.out.setCell (p := ⟨w2.heap.size, 0, none⟩) (by simp only; omega) _).setCell (by simp) _).setCell (by simp) _).setCell (by simp) _).setCell (by simp) _⟩
          · have HR := Lib.hid hrf
            have HM := Lib.hid M'
            clear hrf M'
            obtain ⟨l0, c0, c1, c2, c3, cf⟩ := T'
            obtain ⟨m0, d0, d1, d2, d3, df⟩ := A'
            have cf1 := cf 1
            go_wp2_with fail
            exact bodyPost_ret (v := .agg #[.int .i64 f, .int .i64 (v1 + 1), .int .i64 v1, .bool nt]) (by simp [results, Tryd.results71, go_sem, d0, d1, d2, d3]) rfl ⟨_, _, _, nt, _, rfl, te_no (fun k _ _ _ e _ => by omega), HR.out.up (by (repeat' (first | with_reducible exact Below.refl _ _ | with_reducible assumption | with_reducible refine Below.setCell ?_ ?_ _ | with_reducible refine Below.alloc ?_ ?_ _ | with_reducible refine Below.drew ?_ | with_reducible refine belDrewN ?_ _ | with_reducible refine Below.trans ?_ (Below.mono (by assumption) ?_) | omega | (simp; omega) | (simp; done)))), by omega, ((((HM.out.setCell (p := ⟨w2.heap.size, 1, none⟩) (by simp only; omega) _).setCell (by simp) _).setCell (by simp) _).setCell (by simp) _).setCell (by simp) _⟩
          · have HR := Lib.hid hrf
            have HM := Lib.hid M'
            clear hrf M'
            obtain ⟨l0, c0, c1, c2, c3, cf⟩ := T'
            obtain ⟨m0, d0, d1, d2, d3, df⟩ := A'
            have cf2 := cf 2
            go_wp2_with fail
            exact bodyPost_ret (v := .agg #[.int .i64 f, .int .i64 v0, .int .i64 (T + 1), .bool nt]) (by simp [results, Tryd.results71, go_sem, d0, d1, d2, d3]) rfl ⟨_, _, _, nt, _, rfl, te_no (fun k e _ _ _ h => by have h8 := HT.out; have h9 : f = k := (by omega); subst h9; omega), HR.out.up (by (repeat' (first | with_reducible exact Below.refl _ _ | with_reducible assumption | with_reducible refine Below.setCell ?_ ?_ _ | with_reducible refine Below.alloc ?_ ?_ _ | with_reducible refine Below.drew ?_ | with_reducible refine belDrewN ?_ _ | with_reducible refine Below.trans ?_ (Below.mono (by assumption) ?_) | omega | (simp; omega) | (simp; done)))), by omega, ((((HM.out.setCell (p := ⟨w2.heap.size, 2, none⟩) (by simp only; omega) _).setCell (by simp) _).setCell (by simp) _).setCell (by simp) _).setCell (by simp) _⟩
end Go.Proofs.YtfcbbahlhjdefaaDoor
