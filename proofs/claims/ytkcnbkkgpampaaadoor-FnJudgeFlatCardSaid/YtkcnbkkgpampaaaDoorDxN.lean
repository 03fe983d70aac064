/- Drawn packets near tests, inside boxes. -/
import Derived.Test.YtkcnbkkgpampaaaDoorDx
namespace Go.Proofs.YtkcnbkkgpampaaaDoor
open Go.RowKit
/-- Tests in a list clear of the reader. -/
def TsR (R : Nat) (w : World) (v : Value) (ts : List Te) : Prop := SlFr (R + 1) 4 Te.enc w v ts
theorem TsR.mv {R : Nat} {w w' : World} {v : Value} {ts : List Te} (h : TsR R w v ts) (hm : Mv R w.heap.size w w') : TsR R w' v ts :=
  SlFr.sub h (Sb.of hm.size (fun k k1 k2 => hm.block k k2 (by omega)))
theorem TsR.at {R : Nat} {w : World} {a : Option Addr} {n cap : Nat} {ts : List Te} (h : TsR R w (.slice a n cap) ts) {k : Nat} (hk : k < ts.length) :
    ∃ b o f lo hi q, a = some ⟨b, o, none⟩ ∧ R < b ∧ b < w.heap.size ∧ ts[k]? = some ⟨f, lo, hi, q⟩ ∧ w.cell? ⟨b, o + k * 4, none⟩ = some (.int .i64 f) ∧ w.cell? ⟨b, o + k * 4 + 1, none⟩ = some (.int .i64 lo) ∧
      w.cell? ⟨b, o + k * 4 + 2, none⟩ = some (.int .i64 hi) ∧ w.cell? ⟨b, o + k * 4 + 3, none⟩ = some (.bool q) := by
  obtain ⟨a', cap', he, _, _, hx⟩ := h
  obtain ⟨rfl, _, _⟩ := Value.slice.inj he
  obtain ⟨b, o, ha, hR, hb, hc⟩ := hx k ts[k] (List.getElem?_eq_getElem hk)
  exact ⟨b, o, _, _, _, _, ha, hR, hb, List.getElem?_eq_getElem hk, hc 0 _ rfl, hc 1 _ rfl, hc 2 _ rfl, hc 3 _ rfl⟩
def DrawnPkN (R : Nat) (bs : List Int) (p : Nat) (w : World) (e : Ending) (w' : World) : Prop :=
  ∃ (x : Pk) (q : Nat), e = .returned (Pk.v x) ∧ RdAt R bs w' q ∧ q ≤ p + 400 ∧ Mv R w.heap.size w w'
set_option maxHeartbeats 4000000 in
set_option maxRecDepth 100000 in
theorem drawNear_any (R : Nat) (bs : List Int) (p : Nat) (n : Int) (ts : List Te) (v : Value) (w : World) (h : RdAt R bs w p) (hp : p ≤ 600000) (hn : n ≤ 1000000) (hn' : -1000000 ≤ n) (ht : TsR R w v ts) (hl : ts.length ≤ 4) :
    Calls Tryd.prog 130 #[.pointer (some ⟨R, 0, none⟩), v, .int .i64 n] w (DrawnPkN R bs p w) := by
  have hR := h.lt
  obtain ⟨sa, cap, rfl, hlc, hcm, -⟩ := id ht
  unfold maxLen at hcm
  have hA0 := Box4.new w 0 0 0 0 32
  have hal : Below w.heap.size w (w.alloc (.cells #[.int .i64 0, .int .i64 0, .int .i64 0, .int .i64 0] 32)) := (Below.refl _ _).alloc (Nat.le_refl _) _
  generalize hnn : ts.length = n' at *
  have HN := Lib.hid hnn
  clear hnn
  go_enter Tryd.func130, Tryd.ntmps130
  go_wp2_with fail
  refine (drawPk_any R bs p n _ (h.below hal) (by omega) (by omega) (by omega)).mono ?_
  rintro e w2 ⟨⟨a, b, c, d⟩, q2, rfl, hr2, hq2, hm2⟩
  have hz2 := hm2.size; simp at hz2
  have S : PkAll R bs w w2.heap.size (w2.alloc (.cells #[.int .i64 a, .int .i64 b, .int .i64 c, .int .i64 d] 32)) q2 a b c d :=
    ⟨hr2.below ((Below.refl _ _).alloc (Nat.le_refl _) _), Box4.new w2 _ _ _ _ _, (hA0.mv hm2 (by simp) (by omega)).old _, ((Mv.of_below hal).trans (hm2.mono (by simp))).alloc (by omega) _, hR, by omega⟩
  clear hA0 hr2 hm2
  have HTS := Lib.hid ht
  clear ht
  go_wp2_with fail
  go_loopw [8] (fun i wr => ∃ k : Nat, k ≤ n' ∧ i = .int .i64 k ∧ ∃ q v0 v1 v2 v3, PkAll R bs w w2.heap.size wr q v0 v1 v2 v3 ∧ q ≤ p + 20 + 60 * k) (fun i _ => n' - (intOf i).toNat)
  case atStart => exact ⟨0, by omega, rfl, _, _, _, _, _, S, by omega⟩
  case round =>
    clear S
    obtain ⟨k, hk, rfl, q, v0, v1, v2, v3, S, hq⟩ := hrel
    by_cases hlt : k < n'
    · have i1 : (k : Int) < (n' : Int) := by omega
      have i2 : (0 : Int) ≤ (k : Int) := by omega
      obtain ⟨b', o, f, lo, hi, qn, rfl, hbR', hbl, hx, d0, d1, d2, d3⟩ := HTS.out.at (show k < ts.length by rw [HN.out]; exact hlt)
      have hbR : b' ≠ R := by omega
      have hzr := S.mv.size
      have hbr : b' < wr.heap.size := by omega
      have e0 := (mvC S.mv b' hbl hbR _).trans d0
      have e1 := (mvC S.mv b' hbl hbR _).trans d1
      have e2 := (mvC S.mv b' hbl hbR _).trans d2
      have e3 := (mvC S.mv b' hbl hbR _).trans d3
      clear hx d0 d1 d2 d3
      cases htv : tvalid1 f lo hi
      · go_wp2_with fail
        refine (specTV_b htv _).mono ?_
        rintro e w4 ⟨rfl, hb4⟩
        have S' := S.mv' (S.rd.below hb4) (Mv.of_below hb4)
        clear hb4
        go_wp2
        go_roundw
        case rel => exact ⟨k + 1, by omega, by go_num, q, _, _, _, _, S', by omega⟩
        case measure => simp [intOf]; omega
      · obtain ⟨fk, rfl, hf4⟩ := tvalid1_fld htv
        obtain ⟨g0, g1, g2⟩ := tvalid1_iff htv
        obtain ⟨t0, t1⟩ := top_le hf4
        go_wp2_with fail
        refine (specTV_b htv _).mono ?_
        rintro e w4 ⟨rfl, hb4⟩
        replace S := S.mv' (S.rd.below hb4) (Mv.of_below hb4)
        replace e0 := (hb4.cell (p := ⟨b', o + k * 4, none⟩) hbr).trans e0
        replace e1 := (hb4.cell (p := ⟨b', o + k * 4 + 1, none⟩) hbr).trans e1
        replace e2 := (hb4.cell (p := ⟨b', o + k * 4 + 2, none⟩) hbr).trans e2
        replace e3 := (hb4.cell (p := ⟨b', o + k * 4 + 3, none⟩) hbr).trans e3
        replace hbr := Nat.lt_of_lt_of_le hbr hb4.size
        clear hb4
        go_wp2_with fail
        refine (pick_any R bs _ _ _ S.rd (by omega) (by omega)).mono ?_
        rintro e w5 ⟨x5, rfl, x50, x51, -, hr5, hm5⟩
        replace S := S.mv' hr5 hm5
        replace e0 := (mvC hm5 b' hbr hbR _).trans e0
        replace e1 := (mvC hm5 b' hbr hbR _).trans e1
        replace e2 := (mvC hm5 b' hbr hbR _).trans e2
        replace e3 := (mvC hm5 b' hbr hbR _).trans e3
        replace hbr := Nat.lt_of_lt_of_le hbr hm5.size
        clear hr5 hm5 x51
        by_cases hx5 : x5 = 0
        · subst hx5
          go_wp2
          go_roundw
          case rel => exact ⟨k + 1, by omega, by go_num, _, _, _, _, _, S, by omega⟩
          case measure => simp [intOf]; omega
        · have hx' : (x5 == 0) = false := by simpa using hx5
          go_upto_region 6 with (fail)
          have hrd := S.rd
          refine wp_region_mv (W := w5) 1 [BIs (.slice (some ⟨b', o, none⟩) n' cap), BIs (.int .i64 (k : Int)), BIs (.pointer (some ⟨b', o + k * 4, none⟩)), BIs (.pointer (some ⟨b', o + k * 4 + 1, none⟩)), BIs (.int .i64 lo), BIs (.slice (some ⟨b', o, none⟩) n' cap), BIs (.int .i64 (k : Int)), BIs (.pointer (some ⟨b', o + k * 4, none⟩)), BIs (.pointer (some ⟨b', o + k * 4 + 2, none⟩)), BIs (.int .i64 hi), BIs (.slice (some ⟨b', o, none⟩) n' cap), BIs (.int .i64 (k : Int)), BIs (.pointer (some ⟨b', o + k * 4, none⟩)), BIs (.pointer (some ⟨b', o + k * 4 + 1, none⟩)), BIs (.int .i64 lo), BIs (.int .i64 (lo - 1)), BV (fun v => ∃ y : Int, v = .int .i64 y ∧ 0 ≤ y ∧ y ≤ 65535), BIs (.slice (some ⟨b', o, none⟩) n' cap), BIs (.int .i64 (k : Int)), BIs (.pointer (some ⟨b', o + k * 4, none⟩)), BIs (.pointer (some ⟨b', o + k * 4, none⟩)), BIs (.int .i64 fk), (BIs (.int .i64 (top fk))), BIs (.slice (some ⟨b', o, none⟩) n' cap), BIs (.int .i64 (k : Int)), BIs (.pointer (some ⟨b', o + k * 4, none⟩)), BIs (.pointer (some ⟨b', o + k * 4 + 2, none⟩)), BIs (.int .i64 hi), BIs (.int .i64 (hi + 1)), BV (fun v => ∃ y : Int, v = .int .i64 y ∧ 0 ≤ y ∧ y ≤ 65535), FLt R 4 (0) (65535), BIs (.pointer (some ⟨R, 0, none⟩)), BV (fun v => ∃ x : Int, v = .int .i64 x ∧ 0 ≤ x ∧ x < 4), FAd R (0) (65535), BV (fun v => ∃ x : Int, v = .int .i64 x ∧ (0) ≤ x ∧ x ≤ (65535)), BV (fun v => ∃ y : Int, v = .int .i64 y ∧ 0 ≤ y ∧ y ≤ 65535)] (by kernel_rfl) hrd (fun u => by simp only [frU, Act.put, List.setIfInBounds_toArray, List.set_cons_succ, List.set_cons_zero, Nat.zero_add, Nat.reduceAdd]; exact rfl) (by kernel_rfl) ⟨mst_is _, mst_is _, mst_is _, mst_is _, mst_is _, mst_is _, mst_is _, mst_is _, mst_is _, mst_is _, mst_is _, mst_is _, mst_is _, mst_is _, mst_is _, mst_is _, mst_v _, mst_is _, mst_is _, mst_is _, mst_is _, mst_is _, (mst_is _), mst_is _, mst_is _, mst_is _, mst_is _, mst_is _, mst_is _, mst_v _, mst_lt, mst_is _, mst_v _, mst_ad, mst_v _, mst_v _, trivial⟩ ?_ ?_; (exact ⟨step_plain rfl (fun m u w3 hm hC hd Q K hK => by (replace hm : m < 36 := hm; go_step; exact hK _ _ rfl hC.same (Mv.refl _ _ _) rfl)), step_plain rfl (fun m u w3 hm hC hd Q K hK => by (replace hm : m < 36 := hm; go_step; exact hK _ _ rfl hC.same (Mv.refl _ _ _) rfl)), step_plain rfl (fun m u w3 hm hC hd Q K hK => by (replace hm : m < 36 := hm; have hu := bis (w := w3) (hd 0 rfl); rw [hu] at hK ⊢; clear hu; have hu := bis (w := w3) (hd 1 rfl); rw [hu] at hK ⊢; clear hu; go_step; exact hK _ _ rfl hC.same (Mv.refl _ _ _) rfl)), step_plain rfl (fun m u w3 hm hC hd Q K hK => by (replace hm : m < 36 := hm; have hu := bis (w := w3) (hd 2 rfl); rw [hu] at hK ⊢; clear hu; go_step; exact hK _ _ rfl hC.same (Mv.refl _ _ _) rfl)), step_plain rfl (fun m u w3 hm hC hd Q K hK => by (replace hm : m < 36 := hm; have hu := bis (w := w3) (hd 3 rfl); rw [hu] at hK ⊢; clear hu; obtain ⟨q3, hr3, hq3, hM⟩ := id hC; have z0 := (mvC hM b' hbr hbR _).trans e1; go_step; exact hK _ _ rfl hC.same (Mv.refl _ _ _) rfl)), step_plain rfl (fun m u w3 hm hC hd Q K hK => by (replace hm : m < 36 := hm; go_step; exact hK _ _ rfl hC.same (Mv.refl _ _ _) rfl)), step_plain rfl (fun m u w3 hm hC hd Q K hK => by (replace hm : m < 36 := hm; go_step; exact hK _ _ rfl hC.same (Mv.refl _ _ _) rfl)), step_plain rfl (fun m u w3 hm hC hd Q K hK => by (replace hm : m < 36 := hm; have hu := bis (w := w3) (hd 5 rfl); rw [hu] at hK ⊢; clear hu; have hu := bis (w := w3) (hd 6 rfl); rw [hu] at hK ⊢; clear hu; go_step; exact hK _ _ rfl hC.same (Mv.refl _ _ _) rfl)), step_plain rfl (fun m u w3 hm hC hd Q K hK => by (replace hm : m < 36 := hm; have hu := bis (w := w3) (hd 7 rfl); rw [hu] at hK ⊢; clear hu; go_step; exact hK _ _ rfl hC.same (Mv.refl _ _ _) rfl)), step_plain rfl (fun m u w3 hm hC hd Q K hK => by (replace hm : m < 36 := hm; have hu := bis (w := w3) (hd 8 rfl); rw [hu] at hK ⊢; clear hu; obtain ⟨q3, hr3, hq3, hM⟩ := id hC; have z0 := (mvC hM b' hbr hbR _).trans e2; go_step; exact hK _ _ rfl hC.same (Mv.refl _ _ _) rfl)), step_plain rfl (fun m u w3 hm hC hd Q K hK => by (replace hm : m < 36 := hm; go_step; exact hK _ _ rfl hC.same (Mv.refl _ _ _) rfl)), step_plain rfl (fun m u w3 hm hC hd Q K hK => by (replace hm : m < 36 := hm; go_step; exact hK _ _ rfl hC.same (Mv.refl _ _ _) rfl)), step_plain rfl (fun m u w3 hm hC hd Q K hK => by (replace hm : m < 36 := hm; have hu := bis (w := w3) (hd 10 rfl); rw [hu] at hK ⊢; clear hu; have hu := bis (w := w3) (hd 11 rfl); rw [hu] at hK ⊢; clear hu; go_step; exact hK _ _ rfl hC.same (Mv.refl _ _ _) rfl)), step_plain rfl (fun m u w3 hm hC hd Q K hK => by (replace hm : m < 36 := hm; have hu := bis (w := w3) (hd 12 rfl); rw [hu] at hK ⊢; clear hu; go_step; exact hK _ _ rfl hC.same (Mv.refl _ _ _) rfl)), step_plain rfl (fun m u w3 hm hC hd Q K hK => by (replace hm : m < 36 := hm; have hu := bis (w := w3) (hd 13 rfl); rw [hu] at hK ⊢; clear hu; obtain ⟨q3, hr3, hq3, hM⟩ := id hC; have z0 := (mvC hM b' hbr hbR _).trans e1; go_step; exact hK _ _ rfl hC.same (Mv.refl _ _ _) rfl)), step_plain rfl (fun m u w3 hm hC hd Q K hK => by (replace hm : m < 36 := hm; have hu := bis (w := w3) (hd 14 rfl); rw [hu] at hK ⊢; clear hu; go_step; exact hK _ _ rfl hC.same (Mv.refl _ _ _) rfl)), step_plain rfl (fun m u w3 hm hC hd Q K hK => by (replace hm : m < 36 := hm; have hu := bis (w := w3) (hd 15 rfl); rw [hu] at hK ⊢; clear hu; go_step; exact hK _ _ rfl hC.same (Mv.refl _ _ _) ⟨_, rfl, by omega, by omega⟩)), step_plain rfl (fun m u w3 hm hC hd Q K hK => by (replace hm : m < 36 := hm; go_step; exact hK _ _ rfl hC.same (Mv.refl _ _ _) rfl)), step_plain rfl (fun m u w3 hm hC hd Q K hK => by (replace hm : m < 36 := hm; go_step; exact hK _ _ rfl hC.same (Mv.refl _ _ _) rfl)), step_plain rfl (fun m u w3 hm hC hd Q K hK => by (replace hm : m < 36 := hm; have hu := bis (w := w3) (hd 17 rfl); rw [hu] at hK ⊢; clear hu; have hu := bis (w := w3) (hd 18 rfl); rw [hu] at hK ⊢; clear hu; go_step; exact hK _ _ rfl hC.same (Mv.refl _ _ _) rfl)), step_plain rfl (fun m u w3 hm hC hd Q K hK => by (replace hm : m < 36 := hm; have hu := bis (w := w3) (hd 19 rfl); rw [hu] at hK ⊢; clear hu; go_step; exact hK _ _ rfl hC.same (Mv.refl _ _ _) rfl)), step_plain rfl (fun m u w3 hm hC hd Q K hK => by (replace hm : m < 36 := hm; have hu := bis (w := w3) (hd 20 rfl); rw [hu] at hK ⊢; clear hu; obtain ⟨q3, hr3, hq3, hM⟩ := id hC; have z0 := (mvC hM b' hbr hbR _).trans e0; go_step; exact hK _ _ rfl hC.same (Mv.refl _ _ _) rfl)), step_plain rfl (fun m u w3 hm hC hd Q K hK => by (replace hm : m < 36 := hm; have hu := bis (w := w3) (hd 21 rfl); rw [hu] at hK ⊢; clear hu; obtain ⟨q3, hr3, hq3, hM⟩ := id hC; go_step; refine (specFTop_any fk hf4 _).mono ?_; rintro e _ ⟨rfl, rfl⟩; exact hK _ _ rfl hC.same (Mv.refl _ _ _) rfl)), step_plain rfl (fun m u w3 hm hC hd Q K hK => by (replace hm : m < 36 := hm; go_step; exact hK _ _ rfl hC.same (Mv.refl _ _ _) rfl)), step_plain rfl (fun m u w3 hm hC hd Q K hK => by (replace hm : m < 36 := hm; go_step; exact hK _ _ rfl hC.same (Mv.refl _ _ _) rfl)), step_plain rfl (fun m u w3 hm hC hd Q K hK => by (replace hm : m < 36 := hm; have hu := bis (w := w3) (hd 23 rfl); rw [hu] at hK ⊢; clear hu; have hu := bis (w := w3) (hd 24 rfl); rw [hu] at hK ⊢; clear hu; go_step; exact hK _ _ rfl hC.same (Mv.refl _ _ _) rfl)), step_plain rfl (fun m u w3 hm hC hd Q K hK => by (replace hm : m < 36 := hm; have hu := bis (w := w3) (hd 25 rfl); rw [hu] at hK ⊢; clear hu; go_step; exact hK _ _ rfl hC.same (Mv.refl _ _ _) rfl)), step_plain rfl (fun m u w3 hm hC hd Q K hK => by (replace hm : m < 36 := hm; have hu := bis (w := w3) (hd 26 rfl); rw [hu] at hK ⊢; clear hu; obtain ⟨q3, hr3, hq3, hM⟩ := id hC; have z0 := (mvC hM b' hbr hbR _).trans e2; go_step; exact hK _ _ rfl hC.same (Mv.refl _ _ _) rfl)), step_plain rfl (fun m u w3 hm hC hd Q K hK => by (replace hm : m < 36 := hm; have hu := bis (w := w3) (hd 27 rfl); rw [hu] at hK ⊢; clear hu; go_step; exact hK _ _ rfl hC.same (Mv.refl _ _ _) rfl)), step_plain rfl (fun m u w3 hm hC hd Q K hK => by (replace hm : m < 36 := hm; have hu := bis (w := w3) (hd 22 rfl); rw [hu] at hK ⊢; clear hu; have hu := bis (w := w3) (hd 28 rfl); rw [hu] at hK ⊢; clear hu; go_step; exact hK _ _ rfl hC.same (Mv.refl _ _ _) ⟨_, rfl, by omega, by omega⟩)), step_plain rfl (fun m u w3 hm hC hd Q K hK => by (replace hm : m < 36 := hm; have hu := bis (w := w3) (hd 4 rfl); rw [hu] at hK ⊢; clear hu; have hu := bis (w := w3) (hd 9 rfl); rw [hu] at hK ⊢; clear hu; obtain ⟨y1, hu, hy1, hy2⟩ := hd 16 rfl; rw [hu] at hK ⊢; clear hu; obtain ⟨y3, hu, hy3, hy4⟩ := hd 29 rfl; rw [hu] at hK ⊢; clear hu; obtain ⟨q3, hr3, hq3, hM⟩ := id hC; go_step; have hal3 := fun o => (Below.refl w3.heap.size w3).alloc (Nat.le_refl _) o; have hlt3 := hr3.lt; refine hK _ _ rfl (hC.below (hal3 _)) (Mv.of_below (hal3 _)) ⟨_, rfl, by simp, by omega, fun j hj => ?_⟩; match j, hj with | 0, _ => exact ⟨_, by simp; try rfl, by omega, by omega⟩ | 1, _ => exact ⟨_, by simp; try rfl, by omega, by omega⟩ | 2, _ => exact ⟨_, by simp; try rfl, by omega, by omega⟩ | 3, _ => exact ⟨_, by simp; try rfl, by omega, by omega⟩ | j + 4, hj => exact absurd hj (by omega))), step_plain rfl (fun m u w3 hm hC hd Q K hK => by (replace hm : m < 36 := hm; go_step; exact hK _ _ rfl hC.same (Mv.refl _ _ _) rfl)), step_plain rfl (fun m u w3 hm hC hd Q K hK => by (replace hm : m < 36 := hm; have hu := bis (w := w3) (hd 31 rfl); rw [hu] at hK ⊢; clear hu; obtain ⟨q3, hr3, hq3, hM⟩ := id hC; go_step; refine (pick_any R _ _ _ _ hr3 (by omega) (by omega)).mono ?_; rintro e w4 ⟨x, rfl, hx0, hx1, hx2, hr4, hm4⟩; exact hK _ _ rfl (hC.mv hr4 (by omega) hm4) hm4 ⟨x, rfl, hx0, hx1 (by omega)⟩)), step_plain rfl (fun m u w3 hm hC hd Q K hK => by (replace hm : m < 36 := hm; obtain ⟨x, hu, hx0, hx1⟩ := hd 32 rfl; rw [hu] at hK ⊢; clear hu; obtain ⟨nx, rfl⟩ := Int.eq_ofNat_of_zero_le hx0; obtain ⟨b, hu, hb1, hb2, hbc⟩ := hd 30 rfl; rw [hu] at hK ⊢; clear hu; go_step; refine hK _ _ rfl hC.same (Mv.refl _ _ _) ⟨b, _, rfl, hb1, hb2, ?_⟩; (try simp only [Nat.zero_add, Nat.mul_one, Nat.add_zero]); exact hbc nx (by omega))), step_plain rfl (fun m u w3 hm hC hd Q K hK => by (replace hm : m < 36 := hm; obtain ⟨b, o, hu, hb1, hb2, x, hbc, hx0, hx1⟩ := hd 33 rfl; rw [hu] at hK ⊢; clear hu; go_step; exact hK _ _ rfl hC.same (Mv.refl _ _ _) ⟨x, rfl, hx0, hx1⟩)), step_plain rfl (fun m u w3 hm hC hd Q K hK => by (replace hm : m < 36 := hm; obtain ⟨y, hu, hy1, hy2⟩ := hd 34 rfl; rw [hu] at hK ⊢; clear hu; go_step; exact hK _ _ rfl hC.same (Mv.refl _ _ _) ⟨y, rfl, hy1, hy2⟩)), trivial⟩); intro u w9 hC9 hF; obtain ⟨q9, hr9, hq9, hM9⟩ := hC9; replace hq9 : q9 ≤ _ + 1 * 36 := hq9; rw [bis (w := w9) (hF 0 (by decide))]; rw [bis (w := w9) (hF 1 (by decide))]; rw [bis (w := w9) (hF 2 (by decide))]; rw [bis (w := w9) (hF 3 (by decide))]; rw [bis (w := w9) (hF 4 (by decide))]; rw [bis (w := w9) (hF 5 (by decide))]; rw [bis (w := w9) (hF 6 (by decide))]; rw [bis (w := w9) (hF 7 (by decide))]; rw [bis (w := w9) (hF 8 (by decide))]; rw [bis (w := w9) (hF 9 (by decide))]; rw [bis (w := w9) (hF 10 (by decide))]; rw [bis (w := w9) (hF 11 (by decide))]; rw [bis (w := w9) (hF 12 (by decide))]; rw [bis (w := w9) (hF 13 (by decide))]; rw [bis (w := w9) (hF 14 (by decide))]; rw [bis (w := w9) (hF 15 (by decide))]; generalize u 16 = vx16 at *; rw [bis (w := w9) (hF 17 (by decide))]; rw [bis (w := w9) (hF 18 (by decide))]; rw [bis (w := w9) (hF 19 (by decide))]; rw [bis (w := w9) (hF 20 (by decide))]; rw [bis (w := w9) (hF 21 (by decide))]; generalize u 22 = vx22 at *; rw [bis (w := w9) (hF 23 (by decide))]; rw [bis (w := w9) (hF 24 (by decide))]; rw [bis (w := w9) (hF 25 (by decide))]; rw [bis (w := w9) (hF 26 (by decide))]; rw [bis (w := w9) (hF 27 (by decide))]; rw [bis (w := w9) (hF 28 (by decide))]; generalize u 29 = vx29 at *; generalize u 30 = vx30 at *; rw [bis (w := w9) (hF 31 (by decide))]; generalize u 32 = vx32 at *; generalize u 33 = vx33 at *; generalize u 34 = vx34 at *; have h35 := hF 35 (by decide); generalize u 35 = v9 at *; clear hF
          obtain ⟨x, rfl, hx0, hx1⟩ := h35
          replace S := S.mv' hr9 hM9
          replace e0 := (mvC hM9 b' hbr hbR _).trans e0
          replace hbr := Nat.lt_of_lt_of_le hbr hM9.size
          clear hr9 hM9 hrd e1 e2 e3
          obtain ⟨l0, c0, c1, c2, c3, cf⟩ := id S.B
          rcases (by omega : fk = 0 ∨ fk = 1 ∨ fk = 2 ∨ fk = 3) with rfl | rfl | rfl | rfl
          · go_wp2
            go_roundw
            case rel => exact ⟨k + 1, by omega, by go_num, _, _, _, _, _, S.st (S.B.set x).1, by omega⟩
            case measure => simp [intOf]; omega
          · go_wp2
            go_roundw
            case rel => exact ⟨k + 1, by omega, by go_num, _, _, _, _, _, S.st (S.B.set x).2.1, by omega⟩
            case measure => simp [intOf]; omega
          · go_wp2
            go_roundw
            case rel => exact ⟨k + 1, by omega, by go_num, _, _, _, _, _, S.st (S.B.set x).2.2.1, by omega⟩
            case measure => simp [intOf]; omega
          · go_wp2
            go_roundw
            case rel => exact ⟨k + 1, by omega, by go_num, _, _, _, _, _, S.st (S.B.set x).2.2.2, by omega⟩
            case measure => simp [intOf]; omega
    · have hkn : k = n' := by omega
      obtain ⟨l0, c0, c1, c2, c3, cf⟩ := id S.B
      obtain ⟨a0, d0, d1, d2, d3, df⟩ := id S.A
      go_wp2_with fail
      refine bodyPost_ret (stored4 rfl rfl Tryd.isAgg32 Tryd.sizeOf32 S.A.some) rfl ?_
      have hb : Below w.heap.size wr ((((wr.setCell ⟨w.heap.size, 0, none⟩ (.int .i64 v0)).setCell ⟨w.heap.size, 1, none⟩ (.int .i64 v1)).setCell ⟨w.heap.size, 2, none⟩ (.int .i64 v2)).setCell ⟨w.heap.size, 3, none⟩ (.int .i64 v3)) := by (repeat' (first | with_reducible exact Below.refl _ _ | with_reducible assumption | with_reducible refine Below.setCell ?_ ?_ _ | with_reducible refine Below.alloc ?_ ?_ _ | with_reducible refine Below.drew ?_ | with_reducible refine belDrewN ?_ _ | with_reducible refine Below.trans ?_ (Below.mono (by assumption) ?_) | omega | (simp; omega) | (simp; done)))
      exact ⟨⟨v0, v1, v2, v3⟩, q, rfl, S.rd.up (hb.mono (by omega)), by omega, S.mv.trans (Mv.of_below hb)⟩
/-- A fresh block of two numbers. -/
def FTwo (base : Nat) : World → Value → Prop := fun w v => ∃ B, v = .pointer (some ⟨B, 0, none⟩) ∧ base ≤ B ∧ Two w B 0 0
theorem mst_two {R base : Nat} (h : R < base) : MStb R (FTwo base) := fun _ _ _ hm ⟨B, h0, h1, h2⟩ => ⟨B, h0, h1, h2.mv hm h2.lt (by omega)⟩
def GTwo (base i : Nat) : Nat → World → Value → Prop := fun j w v => j = i → ∃ (B : Nat) (x y : Int), v = .pointer (some ⟨B, 0, none⟩) ∧ base ≤ B ∧ Two w B x y
theorem mvAfter {R : Nat} {wr wX w5 : World} (hm5 : Mv R wX.heap.size wX w5) (hb : Below wr.heap.size wr wX) : Mv R wr.heap.size wr w5 := (Mv.of_below hb).trans (hm5.mono hb.size)
theorem pick_set {lo R : Nat} {bs : List Int} {q : Nat} {wr wX : World} {sb so m sc : Nat} {xs : List Sp} (hr : RdAt R bs wr q) (hq : q ≤ 900000) (hb : Below wr.heap.size wr wX) (hs : Sps lo wr (.slice (some ⟨sb, so, none⟩) m sc) xs) (hm : xs.length = m) (h0 : 0 < m) (h1 : m ≤ 40) (hR : sb ≠ R) (hl : sb < wr.heap.size) :
    Calls Tryd.prog 94 #[.pointer (some ⟨R, 0, none⟩), .int .i64 m] wX fun e w5 => ∃ (nx : Nat) (f1 f2 : Int), e = .returned (.int .i64 nx) ∧ nx < m ∧ (nx : Int) < m ∧ (0 : Int) ≤ nx ∧ RdAt R bs w5 (q + 1) ∧ Mv R wr.heap.size wr w5 ∧ Mv R wX.heap.size wX w5 ∧ w5.cell? ⟨sb, so + nx * 2, none⟩ = some (.int .i64 f1) ∧ w5.cell? ⟨sb, so + nx * 2 + 1, none⟩ = some (.int .i64 f2) ∧ sb < w5.heap.size ∧ wr.heap.size ≤ w5.heap.size := by
  refine (pick_any R bs q _ _ (hr.below hb) (by omega) (by omega)).mono ?_
  rintro e w5 ⟨x5, rfl, x50, x51, -, hr5, hm5⟩
  have hx5 := x51 (by omega)
  obtain ⟨nx, rfl⟩ := Int.eq_ofNat_of_zero_le x50
  have hmr := mvAfter hm5 hb
  obtain ⟨sb2, so2, f1, f2, he2, hsbl2, hxx2, s0, s1⟩ := hs.at (k := nx) (by omega)
  obtain ⟨rfl, rfl, -⟩ := Addr.mk.inj (Option.some.inj he2)
  exact ⟨nx, f1, f2, rfl, by omega, hx5, x50, hr5, hmr, hm5, (mvC hmr sb hl hR _).trans s0, (mvC hmr sb hl hR _).trans s1, Nat.lt_of_lt_of_le hl hmr.size, hmr.size⟩
set_option maxHeartbeats 4000000 in
set_option maxRecDepth 100000 in
theorem drawIn_any {lo : Nat} (R : Nat) (bs : List Int) (p : Nat) (n : Int) (b : Bx) (v : Value) (w : World) (h : RdAt R bs w p) (hp : p ≤ 500000) (hn : n ≤ 1000000) (hn' : -1000000 ≤ n) (hs : Rws lo w v b) (hlo : R < lo) (hb40 : ∀ (k : Nat) xs, b[k]? = some xs → xs.length ≤ 40) :
    Calls Tryd.prog 118 #[.pointer (some ⟨R, 0, none⟩), .agg #[v], .int .i64 n] w (DrawnPkN R bs (p + 100) w) := by
  have hR := h.lt
  obtain ⟨a, cap, rfl, hlc, hcm⟩ := hs.form
  unfold maxLen at hcm
  generalize hnn : b.length = n' at *
  have HN := Lib.hid hnn
  clear hnn
  obtain ⟨i0, hi, hy0, hy1, hy2⟩ := info_parts infoTe
  obtain ⟨W, hW⟩ : ∃ W, (((w.alloc (.cells #[.slice a n' cap] 50)).alloc (.cells #[.int .i64 0, .int .i64 0, .int .i64 0, .int .i64 0] 32)).alloc (.cells #[] 158)) = W := ⟨_, rfl⟩
  have hal : Below w.heap.size w W := by rw [← hW]; (repeat' (first | with_reducible exact Below.refl _ _ | with_reducible assumption | with_reducible refine Below.setCell ?_ ?_ _ | with_reducible refine Below.alloc ?_ ?_ _ | with_reducible refine Below.drew ?_ | with_reducible refine belDrewN ?_ _ | with_reducible refine Below.trans ?_ (Below.mono (by assumption) ?_) | omega | (simp; omega) | (simp; done)))
  have qs : W.heap.size = w.heap.size + 1 + 1 + 1 := by rw [← hW]; simp
  have g0 : W.cell? ⟨w.heap.size, 0, none⟩ = some (.slice a n' cap) := by rw [← hW]; exact ((alloc3_cells w #[.slice a n' cap] #[.int .i64 0, .int .i64 0, .int .i64 0, .int .i64 0] #[] 50 32 158).1 0).trans rfl
  have hO : OwnTe (w.heap.size + 1 + 1) W (.slice (some ⟨w.heap.size + 1 + 1, 0, none⟩) 0 0) [] := by
    rw [← hW]
    have := OwnTe.lit (base := w.heap.size + 1 + 1) (w := (w.alloc (.cells #[.slice a n' cap] 50)).alloc (.cells #[.int .i64 0, .int .i64 0, .int .i64 0, .int .i64 0] 32)) (by simp)
    simpa using this
  have hA : Box4 W (w.heap.size + 1) 0 0 0 0 := by
    rw [← hW]
    have := (Box4.new (w.alloc (.cells #[.slice a n' cap] 50)) 0 0 0 0 32).old (.cells #[] 158)
    simpa using this
  have hs0 := hs
  have hrW := h.below hal
  clear hs
  go_enter Tryd.func118, Tryd.ntmps118
  go_wp2_with fail
  go_loopw [7, 8] (fun v i wr => ∃ (k : Nat) (ts : List Te) (q : Nat), k ≤ 4 ∧ k ≤ n' ∧ i = .int .i64 k ∧ Hid (OwnTe (w.heap.size + 1 + 1) wr v ts) ∧ Hid (ts.length ≤ k) ∧ RdAt R bs wr q ∧ q ≤ p + 20 * k ∧ Mv R (w.heap.size + 1 + 1) W wr ∧ W.heap.size ≤ wr.heap.size) (fun _ i _ => 4 - (intOf i).toNat)
  case atStart => exact ⟨0, [], p, by omega, by omega, rfl, Lib.hid hO, Lib.hid (by simp), hrW, by omega, Mv.refl _ _ _, Nat.le_refl _⟩
  case round =>
    obtain ⟨k, ts, q, hk4, hkn, rfl, HO, HL, hr, hq, hm, hz⟩ := hrel
    have hneR : w.heap.size ≠ R := by omega
    have c0 := (mvC hm w.heap.size (by omega) hneR 0).trans g0
    have qr : w.heap.size < wr.heap.size := by omega
    by_cases hlt : k < n' ∧ k < 4
    · obtain ⟨hlt, hlt4⟩ := hlt
      have i1 : (k : Int) < (n' : Int) := by omega
      have i2 : (0 : Int) ≤ (k : Int) := by omega
      have i4 : (k : Int) < 4 := by omega
      obtain ⟨xs, hx⟩ : ∃ xs, b[k]? = some xs := ⟨_, List.getElem?_eq_getElem (by rw [HN.out]; exact hlt)⟩
      have hx40 := hb40 k xs hx
      have hsr : Rws lo wr (.slice a n' cap) b := by
        exact (hs0.sub (Sb.of (Nat.le_trans hal.size hz) (fun j j1 j2 => (hm.block j (by omega) (by omega)).trans (hal.block j j2))))
      obtain ⟨b', o, sv, rfl, hbl, d0, hsv⟩ := hsr.at hx
      have hb'R : b' ≠ R := by
        obtain ⟨vs, ⟨a', c', he, -, -, hxx⟩, hvv⟩ := hsr
        obtain ⟨he, -, -⟩ := Value.slice.inj he
        obtain ⟨b2, o2, e2, hl2, -⟩ := hxx k _ (List.getElem?_eq_getElem (by rw [hvv.1, HN.out]; exact hlt))
        rw [← he] at e2
        cases e2; omega
      obtain ⟨sa, sc, rfl, hsl, hsm⟩ := hsv.form
      unfold maxLen at hsm
      generalize hmm : xs.length = m at *
      have HM := Lib.hid hmm
      clear hmm hx
      by_cases h0 : 0 < m
      · have h0i : (0 : Int) < (m : Int) := by omega
        obtain ⟨sb, so, -, -, rfl, hsbl, -, -, -⟩ := hsv.at (k := 0) (by rw [HM.out]; exact h0)
        have hsbR : sb ≠ R := by
          obtain ⟨a', c', he, -, -, hxx⟩ := hsv
          obtain ⟨he, -, -⟩ := Value.slice.inj he
          obtain ⟨b2, o2, e2, hl2, -⟩ := hxx 0 _ (List.getElem?_eq_getElem (by rw [HM.out]; exact h0))
          rw [← he] at e2
          cases e2; omega
        have HSV := Lib.hid hsv
        clear hsv
        have hRr : R < wr.heap.size := by omega
        go_upto_region 6 with (fail)
        go_cut [9] (fun t wx => ∃ B x y q', t = .pointer (some ⟨B, 0, none⟩) ∧ wr.heap.size ≤ B ∧ B < wx.heap.size ∧ wx.cell? ⟨B, 0, none⟩ = some (.int .i64 x) ∧ wx.cell? ⟨B, 1, none⟩ = some (.int .i64 y) ∧ RdAt R bs wx q' ∧ q' ≤ p + 20 * k + 17 ∧ Mv R wr.heap.size wr wx)
        case first =>
          refine wp_region_last (CM R bs _ 1 wr) (fun a b => Mv R a.heap.size a b) (bof [BIs (.pointer (some ⟨w.heap.size, 0, none⟩)), BIs (.slice (some ⟨b', o, none⟩) n' cap), BIs (.int .i64 (k : Int)), BIs (.pointer (some ⟨b', o + k, none⟩)), BIs (.slice (some ⟨sb, so, none⟩) m sc), BIs (.pointer (some ⟨R, 0, none⟩)), BIs (.pointer (some ⟨w.heap.size, 0, none⟩)), BIs (.slice (some ⟨b', o, none⟩) n' cap), BIs (.int .i64 (k : Int)), BIs (.pointer (some ⟨b', o + k, none⟩)), BIs (.slice (some ⟨sb, so, none⟩) m sc), BIs (.int .i64 (m : Int)), BV (fun v => ∃ x : Int, v = .int .i64 x ∧ 0 ≤ x ∧ x < (m : Int)), BV (fun v => ∃ nx : Nat, v = .pointer (some ⟨sb, so + nx * 2, none⟩) ∧ nx + 1 ≤ m), (BV (fun v => ∃ f1 f2 : Int, v = .agg #[.int .i64 f1, .int .i64 f2])), (FTwo wr.heap.size)]) (GTwo wr.heap.size 15) (fun w9 => ∃ q', RdAt R bs w9 q' ∧ q' ≤ q + 17 ∧ Mv R wr.heap.size wr w9) 16 (by kernel_rfl) rfl (fun u => by simp only [frU, Act.put, List.setIfInBounds_toArray, List.set_cons_succ, List.set_cons_zero, Nat.zero_add, Nat.reduceAdd]; exact rfl) (by kernel_rfl) (by kernel_rfl) (fun iz wz wy vz hbz hz => bof_mst [BIs (.pointer (some ⟨w.heap.size, 0, none⟩)), BIs (.slice (some ⟨b', o, none⟩) n' cap), BIs (.int .i64 (k : Int)), BIs (.pointer (some ⟨b', o + k, none⟩)), BIs (.slice (some ⟨sb, so, none⟩) m sc), BIs (.pointer (some ⟨R, 0, none⟩)), BIs (.pointer (some ⟨w.heap.size, 0, none⟩)), BIs (.slice (some ⟨b', o, none⟩) n' cap), BIs (.int .i64 (k : Int)), BIs (.pointer (some ⟨b', o + k, none⟩)), BIs (.slice (some ⟨sb, so, none⟩) m sc), BIs (.int .i64 (m : Int)), BV (fun v => ∃ x : Int, v = .int .i64 x ∧ 0 ≤ x ∧ x < (m : Int)), BV (fun v => ∃ nx : Nat, v = .pointer (some ⟨sb, so + nx * 2, none⟩) ∧ nx + 1 ≤ m), (BV (fun v => ∃ f1 f2 : Int, v = .agg #[.int .i64 f1, .int .i64 f2])), (FTwo wr.heap.size)] ⟨mst_is _, mst_is _, mst_is _, mst_is _, mst_is _, mst_is _, mst_is _, mst_is _, mst_is _, mst_is _, mst_is _, mst_is _, mst_v _, mst_v _, (mst_v _), (mst_two hRr), trivial⟩ iz wz wy vz hbz hz) (CM.start hr) ?_ ?_; (exact ⟨stSm rfl (fun m u w3 hm hC hd Q K hK => by (go_step; exact hK _ _ rfl hC.same (Mv.refl _ _ _) rfl)), stSm rfl (fun m u w3 hm hC hd Q K hK => by (have hu := bis (w := w3) (hd 0 rfl); rw [hu] at hK ⊢; clear hu; obtain ⟨q3, hr3, hq3, hM⟩ := id hC; have z0 := (mvC hM w.heap.size qr hneR 0).trans c0; go_step; exact hK _ _ rfl hC.same (Mv.refl _ _ _) rfl)), stSm rfl (fun m u w3 hm hC hd Q K hK => by (go_step; exact hK _ _ rfl hC.same (Mv.refl _ _ _) rfl)), stSm rfl (fun m u w3 hm hC hd Q K hK => by (have hu := bis (w := w3) (hd 1 rfl); rw [hu] at hK ⊢; clear hu; have hu := bis (w := w3) (hd 2 rfl); rw [hu] at hK ⊢; clear hu; go_step; exact hK _ _ rfl hC.same (Mv.refl _ _ _) rfl)), stSm rfl (fun m u w3 hm hC hd Q K hK => by (have hu := bis (w := w3) (hd 3 rfl); rw [hu] at hK ⊢; clear hu; obtain ⟨q3, hr3, hq3, hM⟩ := id hC; have z0 := (mvC hM b' hbl hb'R (o + k)).trans d0; go_step; exact hK _ _ rfl hC.same (Mv.refl _ _ _) rfl)), stSm rfl (fun m u w3 hm hC hd Q K hK => by (go_step; exact hK _ _ rfl hC.same (Mv.refl _ _ _) rfl)), stSm rfl (fun m u w3 hm hC hd Q K hK => by (go_step; exact hK _ _ rfl hC.same (Mv.refl _ _ _) rfl)), stSm rfl (fun m u w3 hm hC hd Q K hK => by (have hu := bis (w := w3) (hd 6 rfl); rw [hu] at hK ⊢; clear hu; obtain ⟨q3, hr3, hq3, hM⟩ := id hC; have z0 := (mvC hM w.heap.size qr hneR 0).trans c0; go_step; exact hK _ _ rfl hC.same (Mv.refl _ _ _) rfl)), stSm rfl (fun m u w3 hm hC hd Q K hK => by (go_step; exact hK _ _ rfl hC.same (Mv.refl _ _ _) rfl)), stSm rfl (fun m u w3 hm hC hd Q K hK => by (have hu := bis (w := w3) (hd 7 rfl); rw [hu] at hK ⊢; clear hu; have hu := bis (w := w3) (hd 8 rfl); rw [hu] at hK ⊢; clear hu; go_step; exact hK _ _ rfl hC.same (Mv.refl _ _ _) rfl)), stSm rfl (fun m u w3 hm hC hd Q K hK => by (have hu := bis (w := w3) (hd 9 rfl); rw [hu] at hK ⊢; clear hu; obtain ⟨q3, hr3, hq3, hM⟩ := id hC; have z0 := (mvC hM b' hbl hb'R (o + k)).trans d0; go_step; exact hK _ _ rfl hC.same (Mv.refl _ _ _) rfl)), stSm rfl (fun m u w3 hm hC hd Q K hK => by (have hu := bis (w := w3) (hd 10 rfl); rw [hu] at hK ⊢; clear hu; go_step; exact hK _ _ rfl hC.same (Mv.refl _ _ _) rfl)), stSm rfl (fun m u w3 hm hC hd Q K hK => by (have hu := bis (w := w3) (hd 5 rfl); rw [hu] at hK ⊢; clear hu; have hu := bis (w := w3) (hd 11 rfl); rw [hu] at hK ⊢; clear hu; obtain ⟨q3, hr3, hq3, hM⟩ := id hC; go_step; refine (pick_any R _ _ _ _ hr3 (by omega) (by omega)).mono ?_; rintro e w4 ⟨x, rfl, hx0, hx1, hx2, hr4, hm4⟩; exact hK _ _ rfl (hC.mv hr4 (by omega) hm4) hm4 ⟨x, rfl, hx0, hx1 (by omega)⟩)), stSm rfl (fun m u w3 hm hC hd Q K hK => by (have hu := bis (w := w3) (hd 4 rfl); rw [hu] at hK ⊢; clear hu; obtain ⟨x, hu, hx0, hx1⟩ := hd 12 rfl; rw [hu] at hK ⊢; clear hu; obtain ⟨q3, hr3, hq3, hM⟩ := id hC; obtain ⟨nx, rfl⟩ := Int.eq_ofNat_of_zero_le hx0; go_step; exact hK _ _ rfl hC.same (Mv.refl _ _ _) ⟨nx, rfl, (by omega)⟩)), stSm rfl (fun m u w3 hm hC hd Q K hK => by (obtain ⟨q3, hr3, hq3, hM⟩ := id hC; obtain ⟨nx, hu, hnx⟩ := hd 13 rfl; rw [hu] at hK ⊢; clear hu; obtain ⟨sb2, so2, f1, f2, he2, hsbl2, hxx2, s0, s1⟩ := HSV.out.at (k := nx) (by rw [HM.out]; exact hnx); obtain ⟨rfl, rfl, -⟩ := Addr.mk.inj (Option.some.inj he2); have z0 := (mvC hM sb hsbl hsbR _).trans s0; have z1 := (mvC hM sb hsbl hsbR _).trans s1; go_step; exact hK _ _ rfl hC.same (Mv.refl _ _ _) ⟨f1, f2, rfl⟩)), stSm rfl (fun m u w3 hm hC hd Q K hK => by (obtain ⟨q3, hr3, hq3, hM⟩ := id hC; go_step; have hal3 := fun o => (Below.refl w3.heap.size w3).alloc (Nat.le_refl _) o; exact hK _ _ rfl (hC.below (hal3 _)) (Mv.of_below (hal3 _)) ⟨_, rfl, hM.size, Two.new _ _ _ _⟩)), ⟨rfl, fun m u w3 hm hC hF Q K hK => by (dsimp only at hK ⊢; obtain ⟨B, hu, hB, hT⟩ := hF 15 (by decide); rw [hu] at hK ⊢; have hkeep := hu; clear hu; obtain ⟨f1, f2, hu⟩ := hF 14 (by decide); rw [hu] at hK ⊢; clear hu; obtain ⟨q3, hr3, hq3, hM⟩ := id hC; obtain ⟨zl, z0, z1, zf⟩ := id hT;  go_step; exact hK _ _ rfl ⟨q3, hr3.up (by (repeat' (first | with_reducible exact Below.refl _ _ | with_reducible assumption | with_reducible refine Below.setCell ?_ ?_ _ | with_reducible refine Below.alloc ?_ ?_ _ | with_reducible refine Below.drew ?_ | with_reducible refine belDrewN ?_ _ | with_reducible refine Below.trans ?_ (Below.mono (by assumption) ?_) | omega | (simp; omega) | (simp; done)))), by omega, (hM.setCell hB _).setCell hB _⟩ (fun j hj e => by subst e; exact ⟨B, f1, f2, hkeep, hB, (hT.set0 f1).set1 f2⟩))⟩⟩); intro u w9 hD hG
          obtain ⟨q', hr', hq', hm'⟩ := hD
          obtain ⟨B, x, y, hu15, hB, hT⟩ := hG 15 (by decide) rfl
          rw [hu15]
          go_wp2_with fail
          go_meet
          exact ⟨B, x, y, q', rfl, hB, hT.lt, hT.c0, hT.c1, hr', by omega, hm'⟩
        case rest =>
          obtain ⟨B, x, y, q', rfl, hB, hBl, e0, e1, hr', hq', hm'⟩ := hcut
          have hzc := hm'.size
          have HO2 := Lib.hid (OwnSl.mvK HO.out hm' (by omega))
          have HL2 := Lib.hid (show ts.length ≤ 4 by have := HL.out; omega)
          go_wp2_with (at_builtin; refine wpList_append_own _ rfl _ _ 153 rfl (w.heap.size + 1 + 1) 158 i0 _ 4 32 Tryd.underlying153 hi hy0 hy1 hy2 rfl (by decide) _ _ _ rfl (World.ownsRow.alloc HO2.out _) ⟨wc.heap.size, 0, none⟩ 1 1 (Te.enc ⟨k, x, y, false⟩) rfl rfl (cellsNew wc (Te.enc ⟨k, x, y, false⟩) _) ?c2 ?c3 ?c4 ?c5 ?_)
          case c2 => simp [Value.oneCell']
          case c3 => have := HL2.out; simp only [maxLen]; omega
          case c4 => have := HL2.out; omega
          case c5 => simp; omega
          intro v' w6 hown6 hgrow6 _
          have hB6 : Below (w.heap.size + 1 + 1) wc w6 := (((Below.refl _ _).alloc (by omega) _).grown hgrow6 (by simp; omega) (fun h hh => by have := World.ownsRow.lt HO2.out _ hh; omega))
          have hr6 := hr'.up (hB6.mono (by omega))
          have hm6 : Mv R (w.heap.size + 1 + 1) W w6 := (hm.trans (hm'.mono (by omega))).trans (Mv.of_below hB6)
          have hz6 := hB6.size
          have HO6 := Lib.hid (OwnSl.pushed rfl hown6)
          clear hown6 hgrow6
          go_wp2
          go_roundw
          case rel => exact ⟨k + 1, _, q', by omega, by omega, by go_num, HO6, Lib.hid (by have := HL.out; simp; omega), hr6, by omega, hm6, by omega⟩
          case measure => simp [intOf]; omega
      · obtain rfl : m = 0 := by omega
        go_wp2
        go_roundw
        case rel => exact ⟨k + 1, ts, q, by omega, by omega, by go_num, HO, Lib.hid (by have := HL.out; omega), hr, by omega, hm, hz⟩
        case measure => simp [intOf]; omega
    · have HTS := Lib.hid (show TsR R wr u7 ts from SlFr.mono (lo := w.heap.size + 1 + 1) (OwnSl.fr (sz := 4) (enc := Te.enc) (fun _ => rfl) HO.out) (by omega))
      have hA' := hA.mv hm (by omega) (by omega)
      have hmw : Mv R w.heap.size w wr := (Mv.of_below hal).trans (hm.mono (by omega))
      have hl4 : ts.length ≤ 4 := by have := HL.out; omega
      have hend : ¬ (k < n') ∨ (k < n' ∧ ¬ k < 4) := by omega
      obtain ⟨a', cap', rfl, -, -, -⟩ := id HTS.out
      rcases hend with hend | ⟨hend, hend4⟩
      · have i1 : ¬ (k : Int) < (n' : Int) := by omega
        go_wp2_with fail
        refine (drawNear_any R bs q n ts _ _ hr (by omega) hn hn' HTS.out hl4).mono ?_
        rintro e w7 ⟨⟨xa, xb, xc, xd⟩, q7, rfl, hr7, hq7, hm7⟩
        have hA7 := hA'.mv hm7 hA'.lt (by omega)
        obtain ⟨a0, d0, d1, d2, d3, df⟩ := id hA7
        go_wp2_with fail
        refine bodyPost_ret (stored4 rfl rfl Tryd.isAgg32 Tryd.sizeOf32 hA7.some) rfl ?_
        have hb : Below w.heap.size w7 ((((w7.setCell ⟨w.heap.size + 1, 0, none⟩ (.int .i64 xa)).setCell ⟨w.heap.size + 1, 1, none⟩ (.int .i64 xb)).setCell ⟨w.heap.size + 1, 2, none⟩ (.int .i64 xc)).setCell ⟨w.heap.size + 1, 3, none⟩ (.int .i64 xd)) := by (repeat' (first | with_reducible exact Below.refl _ _ | with_reducible assumption | with_reducible refine Below.setCell ?_ ?_ _ | with_reducible refine Below.alloc ?_ ?_ _ | with_reducible refine Below.drew ?_ | with_reducible refine belDrewN ?_ _ | with_reducible refine Below.trans ?_ (Below.mono (by assumption) ?_) | omega | (simp; omega) | (simp; done)))
        exact ⟨⟨xa, xb, xc, xd⟩, q7, rfl, hr7.up (hb.mono (by omega)), by omega, (hmw.trans (hm7.mono (by omega))).trans (Mv.of_below hb)⟩
      · have i1 : (k : Int) < (n' : Int) := by omega
        have i4 : ¬ (k : Int) < 4 := by omega
        have c0' := c0
        go_wp2_with fail
        refine (drawNear_any R bs q n ts _ _ hr (by omega) hn hn' HTS.out hl4).mono ?_
        rintro e w7 ⟨⟨xa, xb, xc, xd⟩, q7, rfl, hr7, hq7, hm7⟩
        have hA7 := hA'.mv hm7 hA'.lt (by omega)
        obtain ⟨a0, d0, d1, d2, d3, df⟩ := id hA7
        go_wp2_with fail
        refine bodyPost_ret (stored4 rfl rfl Tryd.isAgg32 Tryd.sizeOf32 hA7.some) rfl ?_
        have hb : Below w.heap.size w7 ((((w7.setCell ⟨w.heap.size + 1, 0, none⟩ (.int .i64 xa)).setCell ⟨w.heap.size + 1, 1, none⟩ (.int .i64 xb)).setCell ⟨w.heap.size + 1, 2, none⟩ (.int .i64 xc)).setCell ⟨w.heap.size + 1, 3, none⟩ (.int .i64 xd)) := by (repeat' (first | with_reducible exact Below.refl _ _ | with_reducible assumption | with_reducible refine Below.setCell ?_ ?_ _ | with_reducible refine Below.alloc ?_ ?_ _ | with_reducible refine Below.drew ?_ | with_reducible refine belDrewN ?_ _ | with_reducible refine Below.trans ?_ (Below.mono (by assumption) ?_) | omega | (simp; omega) | (simp; done)))
        exact ⟨⟨xa, xb, xc, xd⟩, q7, rfl, hr7.up (hb.mono (by omega)), by omega, (hmw.trans (hm7.mono (by omega))).trans (Mv.of_below hb)⟩
set_option maxHeartbeats 2000000 in
set_option maxRecDepth 100000 in
theorem drawAim_any {lo : Nat} (R : Nat) (bs : List Int) (p : Nat) (n : Int) (fs : List Ft) (v : Value) (w : World) (h : RdAt R bs w p) (hp : p ≤ 400000) (hn : n ≤ 1000000) (hn' : -1000000 ≤ n) (hs : Fts lo w v fs) (hlo : R < lo) (hl : fs.length ≤ 100) (hk : FtOk (fun n => n ≤ 4) fs) :
    Calls Tryd.prog 93 #[.pointer (some ⟨R, 0, none⟩), v, .int .i64 n] w (DrawnPkN R bs (p + 150) w) := by
  have hR := h.lt
  obtain ⟨a, cap, rfl, hlc, hcm⟩ := hs.form
  unfold maxLen at hcm
  have hal : Below w.heap.size w (w.alloc (.cells #[.int .i64 0, .int .i64 0, .int .i64 0, .int .i64 0] 32)) := (Below.refl _ _).alloc (Nat.le_refl _) _
  have hA0 := Box4.new w 0 0 0 0 32
  generalize hnn : fs.length = m at *
  have HN := Lib.hid hnn
  clear hnn
  by_cases h0 : m = 0
  · subst h0
    go_enter Tryd.func93, Tryd.ntmps93
    go_wp2_with fail
    refine (drawPk_any R bs p n _ (h.below hal) (by omega) (by omega) (by omega)).mono ?_
    rintro e w7 ⟨⟨xa, xb, xc, xd⟩, q7, rfl, hr7, hq7, hm7⟩
    have hA7 := hA0.mv hm7 (by simp) (by omega)
    obtain ⟨a0, d0, d1, d2, d3, df⟩ := id hA7
    go_wp2_with fail
    refine bodyPost_ret (stored4 rfl rfl Tryd.isAgg32 Tryd.sizeOf32 hA7.some) rfl ?_
    have hb : Below w.heap.size w7 ((((w7.setCell ⟨w.heap.size, 0, none⟩ (.int .i64 xa)).setCell ⟨w.heap.size, 1, none⟩ (.int .i64 xb)).setCell ⟨w.heap.size, 2, none⟩ (.int .i64 xc)).setCell ⟨w.heap.size, 3, none⟩ (.int .i64 xd)) := by (repeat' (first | with_reducible exact Below.refl _ _ | with_reducible assumption | with_reducible refine Below.setCell ?_ ?_ _ | with_reducible refine Below.alloc ?_ ?_ _ | with_reducible refine Below.drew ?_ | with_reducible refine belDrewN ?_ _ | with_reducible refine Below.trans ?_ (Below.mono (by assumption) ?_) | omega | (simp; omega) | (simp; done)))
    exact ⟨⟨xa, xb, xc, xd⟩, q7, rfl, hr7.up (hb.mono (by omega)), by omega, ((Mv.of_below hal).trans (hm7.mono (by simp))).trans (Mv.of_below hb)⟩
  · have h0b : ((m : Int) == 0) = false := by simpa using h0
    go_enter Tryd.func93, Tryd.ntmps93
    go_wp2_with fail
    refine (pick_any R bs p _ _ (h.below hal) (by omega) (by omega)).mono ?_
    rintro e w5 ⟨x5, rfl, x50, x51, -, hr5, hm5⟩
    have hx5 := x51 (by omega)
    have hz5 := hm5.size; simp at hz5
    obtain ⟨kk, rfl⟩ := Int.eq_ofNat_of_zero_le x50
    have hA5 := hA0.mv hm5 (by simp) (by omega)
    have hM5 : Mv R w.heap.size w w5 := (Mv.of_below hal).trans (hm5.mono (by simp))
    obtain ⟨f, hf⟩ : ∃ f, fs[kk]? = some f := ⟨_, List.getElem?_eq_getElem (by rw [HN.out]; omega)⟩
    have hs5 : Fts lo w5 (.slice a m cap) fs := by
      obtain ⟨rs, g1, g2⟩ := hs
      have hsb : Sb lo w w5 := Sb.of hM5.size (fun j j1 j2 => hM5.block j j2 (by omega))
      exact ⟨rs, g1.sub hsb, g2.mono (fun _ _ h => ⟨h.1.sub hsb, h.2⟩)⟩
    obtain ⟨b', o, sv, rfl, hbl, c0, c1, hsv⟩ := hs5.at hf
    obtain ⟨hk1, hk2⟩ := hk kk f hf
    have k1 : (kk : Int) < (m : Int) := hx5
    have k2 : (0 : Int) ≤ (kk : Int) := x50
    have HM := Lib.hid hM5
    clear hs hs5 hm5 hf x51 hM5
    go_wp2_with fail
    refine (drawIn_any R bs (p + 1) n f.box _ _ hr5 (by omega) hn hn' hsv hlo hk2).mono ?_
    rintro e w7 ⟨⟨xa, xb, xc, xd⟩, q7, rfl, hr7, hq7, hm7⟩
    have hA7 := hA5.mv hm7 hA5.lt (by omega)
    obtain ⟨a0, d0, d1, d2, d3, df⟩ := id hA7
    go_wp2_with fail
    refine bodyPost_ret (stored4 rfl rfl Tryd.isAgg32 Tryd.sizeOf32 hA7.some) rfl ?_
    have hb : Below w.heap.size w7 ((((w7.setCell ⟨w.heap.size, 0, none⟩ (.int .i64 xa)).setCell ⟨w.heap.size, 1, none⟩ (.int .i64 xb)).setCell ⟨w.heap.size, 2, none⟩ (.int .i64 xc)).setCell ⟨w.heap.size, 3, none⟩ (.int .i64 xd)) := by (repeat' (first | with_reducible exact Below.refl _ _ | with_reducible assumption | with_reducible refine Below.setCell ?_ ?_ _ | with_reducible refine Below.alloc ?_ ?_ _ | with_reducible refine Below.drew ?_ | with_reducible refine belDrewN ?_ _ | with_reducible refine Below.trans ?_ (Below.mono (by assumption) ?_) | omega | (simp; omega) | (simp; done)))
    exact ⟨⟨xa, xb, xc, xd⟩, q7, rfl, hr7.up (hb.mono (by omega)), by omega, (HM.out.trans (hm7.mono (by omega))).trans (Mv.of_below hb)⟩
def DrewDB (w : World) (e : Ending) (w' : World) : Prop := ∃ v fs x, e = .returned (.tuple #[v, Pk.v x]) ∧ FsD w w' v fs
set_option maxHeartbeats 2000000 in
set_option maxRecDepth 100000 in
theorem drawDB_any (bs : List Int) (v : Value) (w : World) (h : CodeAt w v bs) : Calls Tryd.prog 50 #[v] w (DrewDB w) := by
  have hal : Below w.heap.size w (w.alloc (.cells #[.int .i64 0, .int .i64 0, .int .i64 0, .int .i64 0] 32)) := (Below.refl _ _).alloc (Nat.le_refl _) _
  have hA0 := Box4.new w 0 0 0 0 32
  have h0 : CodeAt (w.alloc (.cells #[.int .i64 0, .int .i64 0, .int .i64 0, .int .i64 0] 32)) v bs := ⟨h.1.below hal, h.2⟩
  go_enter Tryd.func50, Tryd.ntmps50
  go_wp2_with fail
  refine (open_any bs _ _ h0).mono ?_
  rintro e w1 ⟨R, bs', rfl, hR, hr1, hb1⟩
  have hz1 := hb1.size
  simp at hz1 hR
  have hRlt := hr1.lt
  have hA1 := hA0.mv (R := R) (Mv.of_below hb1) (by simp) (by omega)
  go_wp2_with fail
  refine (drawFts_any R bs' 0 14 _ hr1 (by omega) (by omega) (by omega)).mono ?_
  rintro e w2 ⟨v2, fs, q2, rfl, ho2, hl2, hk2, hr2, hq2, hm2⟩
  have hz2 := hm2.size
  have hA2 := hA1.mv hm2 (by omega) (by omega)
  obtain ⟨sa, cap, rfl, hlc, hcm⟩ := ho2.fts.form
  unfold maxLen at hcm
  go_wp2_with fail
  refine (drawAim_any R bs' q2 14 fs _ _ hr2 (by omega) (by omega) (by omega) ho2.fts hRlt (by omega) hk2).mono ?_
  rintro e w3 ⟨⟨xa, xb, xc, xd⟩, q3, rfl, hr3, hq3, hm3⟩
  have hz3 := hm3.size
  have HO3 := Lib.hid (ho2.mv hm3 hRlt)
  have hA3 := hA2.mv hm3 (by omega) (by omega)
  have hB : Below w.heap.size w w3 := (hal.trans (hb1.mono (by simp))).trans ((hm2.trans (hm3.mono hz2)).below (by omega) (by omega))
  obtain ⟨a0, d0, d1, d2, d3, df⟩ := id hA3
  clear ho2 hr2 hm2 hm3 hr3 hA0 hA1 hA2 h0 h
  go_wp2_with fail
  refine bodyPost_ret (v := .tuple #[.slice sa fs.length cap, Pk.v ⟨xa, xb, xc, xd⟩]) (by simp [results, Tryd.results50, go_sem, d0, d1, d2, d3]) rfl ⟨_, fs, ⟨xa, xb, xc, xd⟩, rfl, ?_, hl2, hk2, by (repeat' (first | with_reducible exact Below.refl _ _ | with_reducible assumption | with_reducible refine Below.setCell ?_ ?_ _ | with_reducible refine Below.alloc ?_ ?_ _ | with_reducible refine Below.drew ?_ | with_reducible refine belDrewN ?_ _ | with_reducible refine Below.trans ?_ (Below.mono (by assumption) ?_) | omega | (simp; omega) | (simp; done)))⟩
  exact (HO3.out.keep (by simp) (fun j j1 j2 => by
    rw [Below.heap_setCell _ _ _ _ (by simp only; omega), Below.heap_setCell _ _ _ _ (by simp only; omega), Below.heap_setCell _ _ _ _ (by simp only; omega), Below.heap_setCell _ _ _ _ (by simp only; omega)])).low (by omega)
end Go.Proofs.YtkcnbkkgpampaaaDoor
