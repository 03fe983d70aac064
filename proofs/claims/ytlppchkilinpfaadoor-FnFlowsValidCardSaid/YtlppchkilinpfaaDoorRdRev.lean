/- The law FnReversePacket: a drawn packet, reversed. -/
import Derived.Test.YtlppchkilinpfaaDoorRdPk
import Derived.Test.YtlppchkilinpfaaDoorAlive
import Derived.Test.YtlppchkilinpfaaDoorPkEq
namespace Go.Proofs.YtlppchkilinpfaaDoor
open Go.RowKit
set_option maxHeartbeats 1000000 in
theorem drawRev_any (bs : List Int) (v : Value) (w : World) (h : CodeAt w v bs) :
    Calls Tryd.prog 15 #[v] w fun e w' => ∃ x : Pk, e = .returned (Pk.v x) ∧ Below w.heap.size w w' := by
  have hA0 := Box4.new w 0 0 0 0 24
  go_enter Tryd.func15, Tryd.ntmps15
  go_wp2_with fail
  refine (open_any bs _ _ ⟨h.1.below ((Below.refl _ _).alloc (Nat.le_refl _) _), h.2⟩).mono ?_
  rintro e w1 ⟨R, bs', rfl, hR, hr1, hb1⟩
  simp at hR
  have hA1 := hA0.mv (Mv.of_below (R := R) hb1) (by simp) (by omega)
  have hz1 := hb1.size
  simp at hz1
  go_wp2_with fail
  refine (drawPk_any R bs' 0 9 _ hr1 (by omega) (by omega) (by omega)).mono ?_
  rintro e w2 ⟨⟨a, b, c, d⟩, q, rfl, -, -, hm2⟩
  have hA2 := hA1.mv hm2 (by omega) (by omega)
  have hz2 := hm2.size
  obtain ⟨a0, d0, d1, d2, d3, df⟩ := id hA2
  have hb2 : Below w.heap.size w w2 := ((Below.refl _ _).alloc (Nat.le_refl _) _).trans ((hb1.mono (by simp)).trans (hm2.below (by omega) (by omega)))
  go_wp2_with fail
  refine bodyPost_ret (stored4 rfl rfl Tryd.isAgg24 Tryd.sizeOf24 hA2.some) rfl ?_
  exact ⟨⟨a, b, c, d⟩, rfl, by (repeat' (first | with_reducible exact Below.refl _ _ | with_reducible assumption | with_reducible refine Below.setCell ?_ ?_ _ | with_reducible refine Below.alloc ?_ ?_ _ | with_reducible refine Below.drew ?_ | with_reducible refine belDrewN ?_ _ | with_reducible refine Below.trans ?_ (Below.mono (by assumption) ?_) | omega | (simp; omega) | (simp; done)))⟩
theorem specRev_b {a b c d a' b' c' d' : Int} (h : Pk.revv ⟨a, b, c, d⟩ = ⟨a', b', c', d'⟩) (w : World) :
    Calls Tryd.prog 11 #[.agg #[.int .i64 a, .int .i64 b, .int .i64 c, .int .i64 d]] w fun e w' => e = .returned (.agg #[.int .i64 a', .int .i64 b', .int .i64 c', .int .i64 d']) ∧ Below w.heap.size w w' := by
  have := specRev_any a b c d w
  rwa [h] at this
theorem implRev_b {a b c d a' b' c' d' : Int} (h : Pk.revv ⟨a, b, c, d⟩ = ⟨a', b', c', d'⟩) (w : World) (ht : Tab w) :
    Calls Tryd.prog 13 #[.agg #[.int .i64 a, .int .i64 b, .int .i64 c, .int .i64 d]] w fun e w' => e = .returned (.agg #[.int .i64 a', .int .i64 b', .int .i64 c', .int .i64 d']) ∧ Below w.heap.size w w' := by
  have := implRev_any a b c d w ht
  rwa [h] at this
set_option maxHeartbeats 2000000 in
theorem law_FnReversePacket (bs : List Int) (v : Value) (w : World) (h : CodeAt w v bs) (ht : Tab w) :
    Calls Tryd.prog 4 #[v] w fun e w' => e = .returned (.bool true) ∧ Below w.heap.size w w' := by
  have h' := h
  obtain ⟨a, cap, rfl, l1, l2, hx⟩ := code_cells h'
  clear hx h'
  unfold maxLen at l2
  by_cases hl : 1048576 < bs.length
  · go_enter Tryd.func4, Tryd.ntmps4
    go_wp2
    go_ret
    exact ⟨rfl, by (repeat' (first | with_reducible exact Below.refl _ _ | with_reducible assumption | with_reducible refine Below.setCell ?_ ?_ _ | with_reducible refine Below.alloc ?_ ?_ _ | with_reducible refine Below.drew ?_ | with_reducible refine belDrewN ?_ _ | with_reducible refine Below.trans ?_ (Below.mono (by assumption) ?_) | omega | (simp; omega) | (simp; done)))⟩
  · go_enter Tryd.func4, Tryd.ntmps4
    go_wp2_with fail
    refine (drawRev_any _ _ _ h).mono ?_
    rintro e w0 ⟨⟨a, b, c, d⟩, rfl, hb0⟩
    have hz0 := hb0.size
    have hp := pkGuard
    cases hok : Pk.ok ⟨a, b, c, d⟩
    · have hr : Pk.revv ⟨a,b,c,d⟩ = ⟨0,0,0,0⟩ := by simp [Pk.revv, hok]
      have hq := pk_equal' 0 0 0 0 0 0 0 0
      rw [decide_eq_true rfl] at hq
      
      go_wp2_with fail; refine (implRev_b hr _ (ht.below (by (repeat' (first | with_reducible exact Below.refl _ _ | with_reducible assumption | with_reducible refine Below.setCell ?_ ?_ _ | with_reducible refine Below.alloc ?_ ?_ _ | with_reducible refine Below.drew ?_ | with_reducible refine belDrewN ?_ _ | with_reducible refine Below.trans ?_ (Below.mono (by assumption) ?_) | omega | (simp; omega) | (simp; done)))))).mono ?_; rintro e w1 ⟨rfl, hb1⟩; obtain ⟨hc1, hf1⟩ := bcell hb1; have hz1 := hb1.size; (try simp at hz1); (try have hz1_w_0 : w.heap.size < w1.heap.size := (by omega)); (try have hz1_w_1 : w.heap.size + 1 < w1.heap.size := (by omega)); (try have hz1_w_2 : w.heap.size + 2 < w1.heap.size := (by omega)); (try have hz1_w0_0 : w0.heap.size < w1.heap.size := (by omega)); (try have hz1_w0_1 : w0.heap.size + 1 < w1.heap.size := (by omega)); (try have hz1_w0_2 : w0.heap.size + 2 < w1.heap.size := (by omega))
      go_wp2_with fail
      refine wp_region_over (by kernel_rfl) (by kernel_rfl) (fun ov => ?_); have ov0 := fun x => ov x (w0.heap.size) (by (try simp) <;> omega); have ov1 := fun x => ov x (w1.heap.size) (by (try simp) <;> omega); clear ov; (repeat (go_big_quiet_step (first | (go_at_call 11; exact callsOver (specRev_b hr _))))); refine wpQuiet_nil ?_; intro w9 hw9; have hb_w9 := below_over hw9; clear hw9 ov0 ov1
      have hc9 := ownCells hb_w9 w0.heap.size (by first | omega | (simp; omega) | simp)
      have hd9 := ownCells hb_w9 w1.heap.size (by first | omega | (simp; omega) | simp)
      have hz9 := hb_w9.size; (try simp at hz9)
      go_wp2_with fail
      refine (specPV_any _ _ _ _ _).mono ?_
      rw [hok]
      rintro e w2 ⟨rfl, hb2⟩
      have hc2 := ownCells hb2 w0.heap.size (by first | omega | (simp; omega))
      have hd2 := ownCells hb2 w1.heap.size (by first | omega | (simp; omega))
      have hz2 := hb2.size; (try simp at hz2)
      go_wp2_with fail
      trace_state
      go_wp2_with (first | (go_at_call 17; refine (alive_any _).mono ?_; rintro e w1 ⟨rfl, hb⟩; obtain ⟨hc, hf⟩ := bcell hb; have hz := hb.size; (try simp at hz)))
      go_ret
      exact ⟨rfl, by (repeat' (first | with_reducible exact Below.refl _ _ | with_reducible assumption | with_reducible refine Below.setCell ?_ ?_ _ | with_reducible refine Below.alloc ?_ ?_ _ | with_reducible refine Below.drew ?_ | with_reducible refine belDrewN ?_ _ | with_reducible refine Below.trans ?_ (Below.mono (by assumption) ?_) | omega | (simp; omega) | (simp; done)))⟩
    · have hr : Pk.revv ⟨a,b,c,d⟩ = ⟨b,a,c,d⟩ := by simp [Pk.revv, Pk.rev, hok]
      have hok2 : Pk.ok ⟨b, a, c, d⟩ = true := by
        simp only [Pk.ok, Bool.and_eq_true] at hok ⊢
        exact ⟨⟨⟨hok.1.1.2, hok.1.1.1⟩, hok.1.2⟩, hok.2⟩
      have hr2 : Pk.revv ⟨b,a,c,d⟩ = ⟨a,b,c,d⟩ := by simp [Pk.revv, Pk.rev, hok2]
      have hq := pk_equal' b a c d b a c d
      rw [decide_eq_true rfl] at hq
      have hq2 := pk_equal' a b c d a b c d
      rw [decide_eq_true rfl] at hq2
      
      go_wp2_with fail; refine (implRev_b hr _ (ht.below (by (repeat' (first | with_reducible exact Below.refl _ _ | with_reducible assumption | with_reducible refine Below.setCell ?_ ?_ _ | with_reducible refine Below.alloc ?_ ?_ _ | with_reducible refine Below.drew ?_ | with_reducible refine belDrewN ?_ _ | with_reducible refine Below.trans ?_ (Below.mono (by assumption) ?_) | omega | (simp; omega) | (simp; done)))))).mono ?_; rintro e w1 ⟨rfl, hb1⟩; obtain ⟨hc1, hf1⟩ := bcell hb1; have hz1 := hb1.size; (try simp at hz1); (try have hz1_w_0 : w.heap.size < w1.heap.size := (by omega)); (try have hz1_w_1 : w.heap.size + 1 < w1.heap.size := (by omega)); (try have hz1_w_2 : w.heap.size + 2 < w1.heap.size := (by omega)); (try have hz1_w0_0 : w0.heap.size < w1.heap.size := (by omega)); (try have hz1_w0_1 : w0.heap.size + 1 < w1.heap.size := (by omega)); (try have hz1_w0_2 : w0.heap.size + 2 < w1.heap.size := (by omega))
      go_wp2_with fail
      refine wp_region_over (by kernel_rfl) (by kernel_rfl) (fun ov => ?_); have ov0 := fun x => ov x (w0.heap.size) (by (try simp) <;> omega); have ov1 := fun x => ov x (w1.heap.size) (by (try simp) <;> omega); clear ov; (repeat (go_big_quiet_step (first | (go_at_call 11; exact callsOver (specRev_b hr _))))); refine wpQuiet_nil ?_; intro w9 hw9; have hb_w9 := below_over hw9; clear hw9 ov0 ov1
      have hc9 := ownCells hb_w9 w0.heap.size (by first | omega | (simp; omega))
      have hd9 := ownCells hb_w9 w1.heap.size (by first | omega | (simp; omega) | simp)
      have hz9 := hb_w9.size; (try simp at hz9)
      go_wp2_with fail
      refine (specPV_any _ _ _ _ _).mono ?_
      rw [hok]
      rintro e w2 ⟨rfl, hb2⟩
      have hc2 := ownCells hb2 w0.heap.size (by first | omega | (simp; omega))
      have hd2 := ownCells hb2 w1.heap.size (by first | omega | (simp; omega))
      have hz2 := hb2.size; (try simp at hz2)
      have ht2 : Tab w2 := ht.below (by (repeat' (first | with_reducible exact Below.refl _ _ | with_reducible assumption | with_reducible refine Below.setCell ?_ ?_ _ | with_reducible refine Below.alloc ?_ ?_ _ | with_reducible refine Below.drew ?_ | with_reducible refine belDrewN ?_ _ | with_reducible refine Below.trans ?_ (Below.mono (by assumption) ?_) | omega | (simp; omega) | (simp; done))))
      go_wp2_with fail
      refine wp_region_over (by kernel_rfl) (by kernel_rfl) (fun ov => ?_); have ov0 := fun x => ov x (w0.heap.size) (by (try simp) <;> omega); have ov1 := fun x => ov x (w1.heap.size) (by (try simp) <;> omega); clear ov; (repeat (go_big_quiet_step (first | (go_at_call 13; exact callsOver (implRev_b hr2 _ (ht2.below (over_below _ _))))))); refine wpQuiet_nil ?_; intro w8 hw9; have hb_w8 := below_over hw9; clear hw9 ov0 ov1
      go_wp2
      go_ret
      trace_state
      exact ⟨rfl, by (repeat' (first | with_reducible exact Below.refl _ _ | with_reducible assumption | with_reducible refine Below.setCell ?_ ?_ _ | with_reducible refine Below.alloc ?_ ?_ _ | with_reducible refine Below.drew ?_ | with_reducible refine belDrewN ?_ _ | with_reducible refine Below.trans ?_ (Below.mono (by assumption) ?_) | omega | (simp; omega) | (simp; done)))⟩
end Go.Proofs.YtlppchkilinpfaaDoor
