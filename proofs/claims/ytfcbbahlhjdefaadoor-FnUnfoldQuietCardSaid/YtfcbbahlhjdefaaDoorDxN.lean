/- Drawn packets near tests, inside boxes. -/
import Derived.Test.YtfcbbahlhjdefaaDoorDxAJ
import Derived.Test.YtfcbbahlhjdefaaDoorDr
/- Draws of rules and a number. -/
namespace Go.Proofs.YtfcbbahlhjdefaaDoor
open Go.RowKit
end Go.Proofs.YtfcbbahlhjdefaaDoor
namespace Go.Proofs.YtfcbbahlhjdefaaDoor
open Go.RowKit
/-- Tests in a list clear of the reader. -/
def TsR (R : Nat) (w : World) (v : Value) (ts : List Te) : Prop := SlFr (R + 1) 4 Te.enc w v ts
theorem TsR.mv {R : Nat} {w w' : World} {v : Value} {ts : List Te} (h : TsR R w v ts) (hm : Mv R w.heap.size w w') : TsR R w' v ts :=
  SlFr.sub h (Sb.of hm.size (fun k k1 k2 => hm.block k k2 (by omega)))
theorem TsR.at {R : Nat} {w : World} {a : Option Addr} {n cap : Nat} {ts : List Te} (h : TsR R w (.slice a n cap) ts) {k : Nat} (hk : k < ts.length) :
    ∃ b o f lo hi q, a = some ⟨b, o, none⟩ ∧ R < b ∧ b < w.heap.size ∧ ts[k]? = some ⟨f, lo, hi, q⟩ ∧ w.cell? ⟨b, o + k * 4, none⟩ = some (.int .i64 f) ∧ w.cell? ⟨b, o + k * 4 + 1, none⟩ = some (.int .i64 lo) ∧
      w.cell? ⟨b, o + k * 4 + 2, none⟩ = some (.int .i64 hi) ∧ w.cell? ⟨b, o + k * 4 + 3, none⟩ = some (.bool q) := by
  obtain ⟨a', cap', he, _, _, hx⟩ := h
  obtain ⟨rfl, _, _⟩ := Value.slice.inj he
  obtain ⟨b, o, ha, hR, hb, hc⟩ := hx k ts[k] (List.getElem?_eq_getElem hk)
  exact ⟨b, o, _, _, _, _, ha, hR, hb, List.getElem?_eq_getElem hk, hc 0 _ rfl, hc 1 _ rfl, hc 2 _ rfl, hc 3 _ rfl⟩
def DrawnPkM (R : Nat) (bs : List Int) (P : Nat) (w : World) (e : Ending) (w' : World) : Prop :=
  ∃ (x : Pk) (q : Nat), e = .returned (Pk.v x) ∧ RdAt R bs w' q ∧ q ≤ P ∧ Mv R w.heap.size w w'
set_option maxHeartbeats 4000000 in
set_option maxRecDepth 100000 in
theorem drawNear_all (R : Nat) (bs : List Int) (p : Nat) (n : Int) (ts : List Te) (v : Value) (w : World) (h : RdAt R bs w p) (hp : p ≤ 600000) (hn : n ≤ 1000000) (hn' : -1000000 ≤ n) (ht : TsR R w v ts) (hl : ts.length ≤ 1000) :
    Calls Tryd.prog 27 #[.pointer (some ⟨R, 0, none⟩), v, .int .i64 n] w (DrawnPkM R bs (p + 20 + 60 * ts.length) w) := by
  have hR := h.lt
  obtain ⟨sa, cap, rfl, hlc, hcm, -⟩ := id ht
  unfold maxLen at hcm
  have hA0 := Box4.new w 0 0 0 0 27
  have hal : Below w.heap.size w (w.alloc (.cells #[.int .i64 0, .int .i64 0, .int .i64 0, .int .i64 0] 27)) := (Below.refl _ _).alloc (Nat.le_refl _) _
  generalize hnn : ts.length = n' at *
  have HN := Lib.hid hnn
  clear hnn
  go_enter Tryd.func27, Tryd.ntmps27
  go_wp2_with fail
  refine (drawPk_any R bs p n _ (h.below hal) (by omega) (by omega) (by omega)).mono ?_
  rintro e w2 ⟨⟨a, b, c, d⟩, q2, rfl, hr2, hq2, hm2⟩
  have hz2 := hm2.size; simp at hz2
  have S : PkAll R bs w w2.heap.size (w2.alloc (.cells #[.int .i64 a, .int .i64 b, .int .i64 c, .int .i64 d] 27)) q2 a b c d :=
    ⟨hr2.below ((Below.refl _ _).alloc (Nat.le_refl _) _), Box4.new w2 _ _ _ _ _, (hA0.mv hm2 (by simp) (by omega)).old _, ((Mv.of_below hal).trans (hm2.mono (by simp))).alloc (by omega) _, hR, by omega⟩
  clear hA0 hr2 hm2
  have HTS := Lib.hid ht
  clear ht
  go_wp2_with fail
  go_loopw [8] (fun i wr => ∃ k : Nat, k ≤ n' ∧ i = .int .i64 k ∧ ∃ q v0 v1 v2 v3, PkAll R bs w w2.heap.size wr q v0 v1 v2 v3 ∧ q ≤ p + 20 + 60 * k) (fun i _ => n' - (intOf i).toNat)
  case atStart => exact ⟨0, by omega, rfl, _, _, _, _, _, S, by omega⟩
  case round =>
    clear S
    obtain ⟨k, hk, rfl, q, v0, v1, v2, v3, S, hq⟩ := hrel
    by_cases hlt : k < n'
    · have i1 : (k : Int) < (n' : Int) := by omega
      have i2 : (0 : Int) ≤ (k : Int) := by omega
      obtain ⟨b', o, f, lo, hi, qn, rfl, hbR', hbl, hx, d0, d1, d2, d3⟩ := HTS.out.at (show k < ts.length by rw [HN.out]; exact hlt)
      have hbR : b' ≠ R := by omega
      have hzr := S.mv.size
      have hbr : b' < wr.heap.size := by omega
      have e0 := (mvC S.mv b' hbl hbR _).trans d0
      have e1 := (mvC S.mv b' hbl hbR _).trans d1
      have e2 := (mvC S.mv b' hbl hbR _).trans d2
      have e3 := (mvC S.mv b' hbl hbR _).trans d3
      clear hx d0 d1 d2 d3
      cases htv : tvalid1 f lo hi
      · go_wp2_with fail
        refine (specTV_b htv _).mono ?_
        rintro e w4 ⟨rfl, hb4⟩
        have S' := S.mv' (S.rd.below hb4) (Mv.of_below hb4)
        clear hb4
        go_wp2
        go_roundw
        case rel => exact ⟨k + 1, by omega, by go_num, q, _, _, _, _, S', by omega⟩
        case measure => simp [intOf]; omega
      · obtain ⟨fk, rfl, hf4⟩ := tvalid1_fld htv
        obtain ⟨g0, g1, g2⟩ := tvalid1_iff htv
        obtain ⟨t0, t1⟩ := top_le hf4
        go_wp2_with fail
        refine (specTV_b htv _).mono ?_
        rintro e w4 ⟨rfl, hb4⟩
        replace S := S.mv' (S.rd.below hb4) (Mv.of_below hb4)
        replace e0 := (hb4.cell (p := ⟨b', o + k * 4, none⟩) hbr).trans e0
        replace e1 := (hb4.cell (p := ⟨b', o + k * 4 + 1, none⟩) hbr).trans e1
        replace e2 := (hb4.cell (p := ⟨b', o + k * 4 + 2, none⟩) hbr).trans e2
        replace e3 := (hb4.cell (p := ⟨b', o + k * 4 + 3, none⟩) hbr).trans e3
        replace hbr := Nat.lt_of_lt_of_le hbr hb4.size
        clear hb4
        go_wp2_with fail
        refine (pick_any R bs _ _ _ S.rd (by omega) (by omega)).mono ?_
        rintro e w5 ⟨x5, rfl, x50, x51, -, hr5, hm5⟩
        replace S := S.mv' hr5 hm5
        replace e0 := (mvC hm5 b' hbr hbR _).trans e0
        replace e1 := (mvC hm5 b' hbr hbR _).trans e1
        replace e2 := (mvC hm5 b' hbr hbR _).trans e2
        replace e3 := (mvC hm5 b' hbr hbR _).trans e3
        replace hbr := Nat.lt_of_lt_of_le hbr hm5.size
        clear hr5 hm5 x51
        by_cases hx5 : x5 = 0
        · subst hx5
          go_wp2
          go_roundw
          case rel => exact ⟨k + 1, by omega, by go_num, _, _, _, _, _, S, by omega⟩
          case measure => simp [intOf]; omega
        · have hx' : (x5 == 0) = false := by simpa using hx5
          go_upto_region 6 with (fail)
          have hrd := S.rd
          refine wp_region_mv (W := w5) 1 [BIs (.slice (some ⟨b', o, none⟩) n' cap), BIs (.int .i64 (k : Int)), BIs (.pointer (some ⟨b', o + k * 4, none⟩)), BIs (.pointer (some ⟨b', o + k * 4 + 1, none⟩)), BIs (.int .i64 lo), BIs (.slice (some ⟨b', o, none⟩) n' cap), BIs (.int .i64 (k : Int)), BIs (.pointer (some ⟨b', o + k * 4, none⟩)), BIs (.pointer (some ⟨b', o + k * 4 + 2, none⟩)), BIs (.int .i64 hi), BIs (.slice (some ⟨b', o, none⟩) n' cap), BIs (.int .i64 (k : Int)), BIs (.pointer (some ⟨b', o + k * 4, none⟩)), BIs (.pointer (some ⟨b', o + k * 4 + 1, none⟩)), BIs (.int .i64 lo), BIs (.int .i64 (lo - 1)), BV (fun v => ∃ y : Int, v = .int .i64 y ∧ 0 ≤ y ∧ y ≤ 65535), BIs (.slice (some ⟨b', o, none⟩) n' cap), BIs (.int .i64 (k : Int)), BIs (.pointer (some ⟨b', o + k * 4, none⟩)), BIs (.pointer (some ⟨b', o + k * 4, none⟩)), BIs (.int .i64 fk), (BIs (.int .i64 (top fk))), BIs (.slice (some ⟨b', o, none⟩) n' cap), BIs (.int .i64 (k : Int)), BIs (.pointer (some ⟨b', o + k * 4, none⟩)), BIs (.pointer (some ⟨b', o + k * 4 + 2, none⟩)), BIs (.int .i64 hi), BIs (.int .i64 (hi + 1)), BV (fun v => ∃ y : Int, v = .int .i64 y ∧ 0 ≤ y ∧ y ≤ 65535), FLt R 4 (0) (65535), BIs (.pointer (some ⟨R, 0, none⟩)), BV (fun v => ∃ x : Int, v = .int .i64 x ∧ 0 ≤ x ∧ x < 4), FAd R (0) (65535), BV (fun v => ∃ x : Int, v = .int .i64 x ∧ (0) ≤ x ∧ x ≤ (65535)), BV (fun v => ∃ y : Int, v = .int .i64 y ∧ 0 ≤ y ∧ y ≤ 65535)] (by kernel_rfl) hrd (fun u => by simp only [frU, Act.put, List.setIfInBounds_toArray, List.set_cons_succ, List.set_cons_zero, Nat.zero_add, Nat.reduceAdd]; exact rfl) (by kernel_rfl) ⟨mst_is _, mst_is _, mst_is _, mst_is _, mst_is _, mst_is _, mst_is _, mst_is _, mst_is _, mst_is _, mst_is _, mst_is _, mst_is _, mst_is _, mst_is _, mst_is _, mst_v _, mst_is _, mst_is _, mst_is _, mst_is _, mst_is _, (mst_is _), mst_is _, mst_is _, mst_is _, mst_is _, mst_is _, mst_is _, mst_v _, mst_lt, mst_is _, mst_v _, mst_ad, mst_v _, mst_v _, trivial⟩ ?_ ?_; (exact ⟨step_plain rfl (fun m u w3 hm hC hd Q K hK => by (replace hm : m < 36 := hm; go_step; exact hK _ _ rfl hC.same (Mv.refl _ _ _) rfl)), step_plain rfl (fun m u w3 hm hC hd Q K hK => by (replace hm : m < 36 := hm; go_step; exact hK _ _ rfl hC.same (Mv.refl _ _ _) rfl)), step_plain rfl (fun m u w3 hm hC hd Q K hK => by (replace hm : m < 36 := hm; have hu := bis (w := w3) (hd 0 rfl); rw [hu] at hK ⊢; clear hu; have hu := bis (w := w3) (hd 1 rfl); rw [hu] at hK ⊢; clear hu; go_step; exact hK _ _ rfl hC.same (Mv.refl _ _ _) rfl)), step_plain rfl (fun m u w3 hm hC hd Q K hK => by (replace hm : m < 36 := hm; have hu := bis (w := w3) (hd 2 rfl); rw [hu] at hK ⊢; clear hu; go_step; exact hK _ _ rfl hC.same (Mv.refl _ _ _) rfl)), step_plain rfl (fun m u w3 hm hC hd Q K hK => by (replace hm : m < 36 := hm; have hu := bis (w := w3) (hd 3 rfl); rw [hu] at hK ⊢; clear hu; obtain ⟨q3, hr3, hq3, hM⟩ := id hC; have z0 := (mvC hM b' hbr hbR _).trans e1; go_step; exact hK _ _ rfl hC.same (Mv.refl _ _ _) rfl)), step_plain rfl (fun m u w3 hm hC hd Q K hK => by (replace hm : m < 36 := hm; go_step; exact hK _ _ rfl hC.same (Mv.refl _ _ _) rfl)), step_plain rfl (fun m u w3 hm hC hd Q K hK => by (replace hm : m < 36 := hm; go_step; exact hK _ _ rfl hC.same (Mv.refl _ _ _) rfl)), step_plain rfl (fun m u w3 hm hC hd Q K hK => by (replace hm : m < 36 := hm; have hu := bis (w := w3) (hd 5 rfl); rw [hu] at hK ⊢; clear hu; have hu := bis (w := w3) (hd 6 rfl); rw [hu] at hK ⊢; clear hu; go_step; exact hK _ _ rfl hC.same (Mv.refl _ _ _) rfl)), step_plain rfl (fun m u w3 hm hC hd Q K hK => by (replace hm : m < 36 := hm; have hu := bis (w := w3) (hd 7 rfl); rw [hu] at hK ⊢; clear hu; go_step; exact hK _ _ rfl hC.same (Mv.refl _ _ _) rfl)), step_plain rfl (fun m u w3 hm hC hd Q K hK => by (replace hm : m < 36 := hm; have hu := bis (w := w3) (hd 8 rfl); rw [hu] at hK ⊢; clear hu; obtain ⟨q3, hr3, hq3, hM⟩ := id hC; have z0 := (mvC hM b' hbr hbR _).trans e2; go_step; exact hK _ _ rfl hC.same (Mv.refl _ _ _) rfl)), step_plain rfl (fun m u w3 hm hC hd Q K hK => by (replace hm : m < 36 := hm; go_step; exact hK _ _ rfl hC.same (Mv.refl _ _ _) rfl)), step_plain rfl (fun m u w3 hm hC hd Q K hK => by (replace hm : m < 36 := hm; go_step; exact hK _ _ rfl hC.same (Mv.refl _ _ _) rfl)), step_plain rfl (fun m u w3 hm hC hd Q K hK => by (replace hm : m < 36 := hm; have hu := bis (w := w3) (hd 10 rfl); rw [hu] at hK ⊢; clear hu; have hu := bis (w := w3) (hd 11 rfl); rw [hu] at hK ⊢; clear hu; go_step; exact hK _ _ rfl hC.same (Mv.refl _ _ _) rfl)), step_plain rfl (fun m u w3 hm hC hd Q K hK => by (replace hm : m < 36 := hm; have hu := bis (w := w3) (hd 12 rfl); rw [hu] at hK ⊢; clear hu; go_step; exact hK _ _ rfl hC.same (Mv.refl _ _ _) rfl)), step_plain rfl (fun m u w3 hm hC hd Q K hK => by (replace hm : m < 36 := hm; have hu := bis (w := w3) (hd 13 rfl); rw [hu] at hK ⊢; clear hu; obtain ⟨q3, hr3, hq3, hM⟩ := id hC; have z0 := (mvC hM b' hbr hbR _).trans e1; go_step; exact hK _ _ rfl hC.same (Mv.refl _ _ _) rfl)), step_plain rfl (fun m u w3 hm hC hd Q K hK => by (replace hm : m < 36 := hm; have hu := bis (w := w3) (hd 14 rfl); rw [hu] at hK ⊢; clear hu; go_step; exact hK _ _ rfl hC.same (Mv.refl _ _ _) rfl)), step_plain rfl (fun m u w3 hm hC hd Q K hK => by (replace hm : m < 36 := hm; have hu := bis (w := w3) (hd 15 rfl); rw [hu] at hK ⊢; clear hu; go_step; exact hK _ _ rfl hC.same (Mv.refl _ _ _) ⟨_, rfl, by omega, by omega⟩)), step_plain rfl (fun m u w3 hm hC hd Q K hK => by (replace hm : m < 36 := hm; go_step; exact hK _ _ rfl hC.same (Mv.refl _ _ _) rfl)), step_plain rfl (fun m u w3 hm hC hd Q K hK => by (replace hm : m < 36 := hm; go_step; exact hK _ _ rfl hC.same (Mv.refl _ _ _) rfl)), step_plain rfl (fun m u w3 hm hC hd Q K hK => by (replace hm : m < 36 := hm; have hu := bis (w := w3) (hd 17 rfl); rw [hu] at hK ⊢; clear hu; have hu := bis (w := w3) (hd 18 rfl); rw [hu] at hK ⊢; clear hu; go_step; exact hK _ _ rfl hC.same (Mv.refl _ _ _) rfl)), step_plain rfl (fun m u w3 hm hC hd Q K hK => by (replace hm : m < 36 := hm; have hu := bis (w := w3) (hd 19 rfl); rw [hu] at hK ⊢; clear hu; go_step; exact hK _ _ rfl hC.same (Mv.refl _ _ _) rfl)), step_plain rfl (fun m u w3 hm hC hd Q K hK => by (replace hm : m < 36 := hm; have hu := bis (w := w3) (hd 20 rfl); rw [hu] at hK ⊢; clear hu; obtain ⟨q3, hr3, hq3, hM⟩ := id hC; have z0 := (mvC hM b' hbr hbR _).trans e0; go_step; exact hK _ _ rfl hC.same (Mv.refl _ _ _) rfl)), step_plain rfl (fun m u w3 hm hC hd Q K hK => by (replace hm : m < 36 := hm; have hu := bis (w := w3) (hd 21 rfl); rw [hu] at hK ⊢; clear hu; obtain ⟨q3, hr3, hq3, hM⟩ := id hC; go_step; refine (specFTop_any fk hf4 _).mono ?_; rintro e _ ⟨rfl, rfl⟩; exact hK _ _ rfl hC.same (Mv.refl _ _ _) rfl)), step_plain rfl (fun m u w3 hm hC hd Q K hK => by (replace hm : m < 36 := hm; go_step; exact hK _ _ rfl hC.same (Mv.refl _ _ _) rfl)), step_plain rfl (fun m u w3 hm hC hd Q K hK => by (replace hm : m < 36 := hm; go_step; exact hK _ _ rfl hC.same (Mv.refl _ _ _) rfl)), step_plain rfl (fun m u w3 hm hC hd Q K hK => by (replace hm : m < 36 := hm; have hu := bis (w := w3) (hd 23 rfl); rw [hu] at hK ⊢; clear hu; have hu := bis (w := w3) (hd 24 rfl); rw [hu] at hK ⊢; clear hu; go_step; exact hK _ _ rfl hC.same (Mv.refl _ _ _) rfl)), step_plain rfl (fun m u w3 hm hC hd Q K hK => by (replace hm : m < 36 := hm; have hu := bis (w := w3) (hd 25 rfl); rw [hu] at hK ⊢; clear hu; go_step; exact hK _ _ rfl hC.same (Mv.refl _ _ _) rfl)), step_plain rfl (fun m u w3 hm hC hd Q K hK => by (replace hm : m < 36 := hm; have hu := bis (w := w3) (hd 26 rfl); rw [hu] at hK ⊢; clear hu; obtain ⟨q3, hr3, hq3, hM⟩ := id hC; have z0 := (mvC hM b' hbr hbR _).trans e2; go_step; exact hK _ _ rfl hC.same (Mv.refl _ _ _) rfl)), step_plain rfl (fun m u w3 hm hC hd Q K hK => by (replace hm : m < 36 := hm; have hu := bis (w := w3) (hd 27 rfl); rw [hu] at hK ⊢; clear hu; go_step; exact hK _ _ rfl hC.same (Mv.refl _ _ _) rfl)), step_plain rfl (fun m u w3 hm hC hd Q K hK => by (replace hm : m < 36 := hm; have hu := bis (w := w3) (hd 22 rfl); rw [hu] at hK ⊢; clear hu; have hu := bis (w := w3) (hd 28 rfl); rw [hu] at hK ⊢; clear hu; go_step; exact hK _ _ rfl hC.same (Mv.refl _ _ _) ⟨_, rfl, by omega, by omega⟩)), step_plain rfl (fun m u w3 hm hC hd Q K hK => by (replace hm : m < 36 := hm; have hu := bis (w := w3) (hd 4 rfl); rw [hu] at hK ⊢; clear hu; have hu := bis (w := w3) (hd 9 rfl); rw [hu] at hK ⊢; clear hu; obtain ⟨y1, hu, hy1, hy2⟩ := hd 16 rfl; rw [hu] at hK ⊢; clear hu; obtain ⟨y3, hu, hy3, hy4⟩ := hd 29 rfl; rw [hu] at hK ⊢; clear hu; obtain ⟨q3, hr3, hq3, hM⟩ := id hC; go_step; have hal3 := fun o => (Below.refl w3.heap.size w3).alloc (Nat.le_refl _) o; have hlt3 := hr3.lt; refine hK _ _ rfl (hC.below (hal3 _)) (Mv.of_below (hal3 _)) ⟨_, rfl, by simp, by omega, fun j hj => ?_⟩; match j, hj with | 0, _ => exact ⟨_, by simp; try rfl, by omega, by omega⟩ | 1, _ => exact ⟨_, by simp; try rfl, by omega, by omega⟩ | 2, _ => exact ⟨_, by simp; try rfl, by omega, by omega⟩ | 3, _ => exact ⟨_, by simp; try rfl, by omega, by omega⟩ | j + 4, hj => exact absurd hj (by omega))), step_plain rfl (fun m u w3 hm hC hd Q K hK => by (replace hm : m < 36 := hm; go_step; exact hK _ _ rfl hC.same (Mv.refl _ _ _) rfl)), step_plain rfl (fun m u w3 hm hC hd Q K hK => by (replace hm : m < 36 := hm; have hu := bis (w := w3) (hd 31 rfl); rw [hu] at hK ⊢; clear hu; obtain ⟨q3, hr3, hq3, hM⟩ := id hC; go_step; refine (pick_any R _ _ _ _ hr3 (by omega) (by omega)).mono ?_; rintro e w4 ⟨x, rfl, hx0, hx1, hx2, hr4, hm4⟩; exact hK _ _ rfl (hC.mv hr4 (by omega) hm4) hm4 ⟨x, rfl, hx0, hx1 (by omega)⟩)), step_plain rfl (fun m u w3 hm hC hd Q K hK => by (replace hm : m < 36 := hm; obtain ⟨x, hu, hx0, hx1⟩ := hd 32 rfl; rw [hu] at hK ⊢; clear hu; obtain ⟨nx, rfl⟩ := Int.eq_ofNat_of_zero_le hx0; obtain ⟨b, hu, hb1, hb2, hbc⟩ := hd 30 rfl; rw [hu] at hK ⊢; clear hu; go_step; refine hK _ _ rfl hC.same (Mv.refl _ _ _) ⟨b, _, rfl, hb1, hb2, ?_⟩; (try simp only [Nat.zero_add, Nat.mul_one, Nat.add_zero]); exact hbc nx (by omega))), step_plain rfl (fun m u w3 hm hC hd Q K hK => by (replace hm : m < 36 := hm; obtain ⟨b, o, hu, hb1, hb2, x, hbc, hx0, hx1⟩ := hd 33 rfl; rw [hu] at hK ⊢; clear hu; go_step; exact hK _ _ rfl hC.same (Mv.refl _ _ _) ⟨x, rfl, hx0, hx1⟩)), step_plain rfl (fun m u w3 hm hC hd Q K hK => by (replace hm : m < 36 := hm; obtain ⟨y, hu, hy1, hy2⟩ := hd 34 rfl; rw [hu] at hK ⊢; clear hu; go_step; exact hK _ _ rfl hC.same (Mv.refl _ _ _) ⟨y, rfl, hy1, hy2⟩)), trivial⟩); intro u w9 hC9 hF; obtain ⟨q9, hr9, hq9, hM9⟩ := hC9; replace hq9 : q9 ≤ _ + 1 * 36 := hq9; rw [bis (w := w9) (hF 0 (by decide))]; rw [bis (w := w9) (hF 1 (by decide))]; rw [bis (w := w9) (hF 2 (by decide))]; rw [bis (w := w9) (hF 3 (by decide))]; rw [bis (w := w9) (hF 4 (by decide))]; rw [bis (w := w9) (hF 5 (by decide))]; rw [bis (w := w9) (hF 6 (by decide))]; rw [bis (w := w9) (hF 7 (by decide))]; rw [bis (w := w9) (hF 8 (by decide))]; rw [bis (w := w9) (hF 9 (by decide))]; rw [bis (w := w9) (hF 10 (by decide))]; rw [bis (w := w9) (hF 11 (by decide))]; rw [bis (w := w9) (hF 12 (by decide))]; rw [bis (w := w9) (hF 13 (by decide))]; rw [bis (w := w9) (hF 14 (by decide))]; rw [bis (w := w9) (hF 15 (by decide))]; generalize u 16 = vx16 at *; rw [bis (w := w9) (hF 17 (by decide))]; rw [bis (w := w9) (hF 18 (by decide))]; rw [bis (w := w9) (hF 19 (by decide))]; rw [bis (w := w9) (hF 20 (by decide))]; rw [bis (w := w9) (hF 21 (by decide))]; generalize u 22 = vx22 at *; rw [bis (w := w9) (hF 23 (by decide))]; rw [bis (w := w9) (hF 24 (by decide))]; rw [bis (w := w9) (hF 25 (by decide))]; rw [bis (w := w9) (hF 26 (by decide))]; rw [bis (w := w9) (hF 27 (by decide))]; rw [bis (w := w9) (hF 28 (by decide))]; generalize u 29 = vx29 at *; generalize u 30 = vx30 at *; rw [bis (w := w9) (hF 31 (by decide))]; generalize u 32 = vx32 at *; generalize u 33 = vx33 at *; generalize u 34 = vx34 at *; have h35 := hF 35 (by decide); generalize u 35 = v9 at *; clear hF
          obtain ⟨x, rfl, hx0, hx1⟩ := h35
          replace S := S.mv' hr9 hM9
          replace e0 := (mvC hM9 b' hbr hbR _).trans e0
          replace hbr := Nat.lt_of_lt_of_le hbr hM9.size
          clear hr9 hM9 hrd e1 e2 e3
          obtain ⟨l0, c0, c1, c2, c3, cf⟩ := id S.B
          rcases (by omega : fk = 0 ∨ fk = 1 ∨ fk = 2 ∨ fk = 3) with rfl | rfl | rfl | rfl
          · go_wp2
            go_roundw
            case rel => exact ⟨k + 1, by omega, by go_num, _, _, _, _, _, S.st (S.B.set x).1, by omega⟩
            case measure => simp [intOf]; omega
          · go_wp2
            go_roundw
            case rel => exact ⟨k + 1, by omega, by go_num, _, _, _, _, _, S.st (S.B.set x).2.1, by omega⟩
            case measure => simp [intOf]; omega
          · go_wp2
            go_roundw
            case rel => exact ⟨k + 1, by omega, by go_num, _, _, _, _, _, S.st (S.B.set x).2.2.1, by omega⟩
            case measure => simp [intOf]; omega
          · go_wp2
            go_roundw
            case rel => exact ⟨k + 1, by omega, by go_num, _, _, _, _, _, S.st (S.B.set x).2.2.2, by omega⟩
            case measure => simp [intOf]; omega
    · have hkn : k = n' := by omega
      obtain ⟨l0, c0, c1, c2, c3, cf⟩ := id S.B
      obtain ⟨a0, d0, d1, d2, d3, df⟩ := id S.A
      go_wp2_with fail
      refine bodyPost_ret (stored4 rfl rfl Tryd.isAgg27 Tryd.sizeOf27 S.A.some) rfl ?_
      have hb : Below w.heap.size wr ((((wr.setCell ⟨w.heap.size, 0, none⟩ (.int .i64 v0)).setCell ⟨w.heap.size, 1, none⟩ (.int .i64 v1)).setCell ⟨w.heap.size, 2, none⟩ (.int .i64 v2)).setCell ⟨w.heap.size, 3, none⟩ (.int .i64 v3)) := by (repeat' (first | with_reducible exact Below.refl _ _ | with_reducible assumption | with_reducible refine Below.setCell ?_ ?_ _ | with_reducible refine Below.alloc ?_ ?_ _ | with_reducible refine Below.drew ?_ | with_reducible refine belDrewN ?_ _ | with_reducible refine Below.trans ?_ (Below.mono (by assumption) ?_) | omega | (simp; omega) | (simp; done)))
      exact ⟨⟨v0, v1, v2, v3⟩, q, rfl, S.rd.up (hb.mono (by omega)), by omega, S.mv.trans (Mv.of_below hb)⟩
end Go.Proofs.YtfcbbahlhjdefaaDoor
