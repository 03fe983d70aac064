/- The exact laws on lists of flows: the walks. -/
import Derived.Test.YtlppchkilinpfaaDoorFlL
namespace Go.Proofs.YtlppchkilinpfaaDoor
open Go.RowKit
theorem lenBig (n : Nat) (h : ¬ n ≤ 1048576) : (if (1048576 : Int) < n then (-1 : Int) else 1048576 - n) = -1 := by rw [if_pos (by omega)]
theorem lenOk (n : Nat) (h : n ≤ 1048576) : (if (1048576 : Int) < n then (-1 : Int) else 1048576 - n) = 1048576 - n := by rw [if_neg (by omega)]
set_option maxHeartbeats 1000000 in
theorem law_FnExactFlowsValid (xs : List Fl) (v : Value) (w : World) (hs : Fls w v xs) (ht : Tab w) :
    Calls Tryd.prog 5 #[v] w fun e w' => e = .returned (.bool true) ∧ Below w.heap.size w w' := by
  obtain ⟨a, cap, rfl, hlc, hcm, -⟩ := id hs
  have hcm' := hcm; unfold maxLen at hcm'
  by_cases hn : xs.length ≤ 1048576
  · go_enter Tryd.func5, Tryd.ntmps5
    go_wp2_with fail
    refine (szFlowS_any a xs.length cap 1048576 (by omega) (by omega) (by omega) w).mono ?_
    rw [lenOk _ hn]
    rintro e _ ⟨rfl, rfl⟩
    go_wp2_with fail
    refine (toFlowS_any xs _ _ hs hn).mono ?_
    rintro e w1 ⟨v1, rfl, ho1, hb1⟩
    go_wp2_with fail
    refine (specFV_any xs _ _ ho1.fls).mono ?_
    rintro e w2 ⟨rfl, hb2⟩
    have hs2 := hs.below (hb1.trans (hb2.mono hb1.size))
    go_wp2_with fail
    refine (toFlowS_any xs _ _ hs2 hn).mono ?_
    rintro e w3 ⟨v3, rfl, ho3, hb3⟩
    have hw3 : Below w.heap.size w w3 := (hb1.trans (hb2.mono hb1.size)).trans (hb3.mono (Nat.le_trans hb1.size hb2.size))
    go_wp2_with fail
    refine (implFV_any xs _ _ ho3.fls (ht.below hw3)).mono ?_
    rintro e w4 ⟨rfl, hb4⟩
    have hw4 := hw3.trans (hb4.mono hw3.size)
    go_wp2_with fail
    refine (toFlowS_any xs _ _ (hs.below hw4) hn).mono ?_
    rintro e w5 ⟨v5, rfl, ho5, hb5⟩
    have hw5 := hw4.trans (hb5.mono hw4.size)
    go_wp2_with fail
    refine (eqFlowS_b (ho3.fls.below (hb4.trans (hb5.mono hb4.size))) ho5.fls (decide_eq_true rfl)).mono ?_
    rintro e w6 ⟨rfl, hb6⟩
    go_wp2
    go_ret
    exact ⟨rfl, hw5.trans (hb6.mono hw5.size)⟩
  · go_enter Tryd.func5, Tryd.ntmps5
    go_wp2_with fail
    refine (szFlowS_any a xs.length cap 1048576 (by omega) (by omega) (by omega) w).mono ?_
    rw [lenBig _ hn]
    rintro e _ ⟨rfl, rfl⟩
    go_wp2
    go_ret
    exact ⟨rfl, by (repeat' (first | with_reducible exact Below.refl _ _ | with_reducible assumption | with_reducible refine Below.setCell ?_ ?_ _ | with_reducible refine Below.alloc ?_ ?_ _ | with_reducible refine Below.drew ?_ | with_reducible refine belDrewN ?_ _ | with_reducible refine Below.trans ?_ (Below.mono (by assumption) ?_) | omega | (simp; omega) | (simp; done)))⟩
set_option maxHeartbeats 1000000 in
theorem law_FnExactKnownFlow (xs : List Fl) (v : Value) (p1 p2 p3 p4 now : Int) (w : World) (hs : Fls w v xs) (ht : Tab w) :
    Calls Tryd.prog 6 #[v, .agg #[.int .i64 p1, .int .i64 p2, .int .i64 p3, .int .i64 p4], .int .i64 now] w fun e w' => e = .returned (.bool true) ∧ Below w.heap.size w w' := by
  obtain ⟨a, cap, rfl, hlc, hcm, -⟩ := id hs
  have hcm' := hcm; unfold maxLen at hcm'
  by_cases hn : xs.length ≤ 1048576
  · go_enter Tryd.func6, Tryd.ntmps6
    go_wp2_with fail
    refine (szFlowS_any a xs.length cap 1048576 (by omega) (by omega) (by omega) _).mono ?_
    rw [lenOk _ hn]
    rintro e _ ⟨rfl, rfl⟩
    have hw0 : Below w.heap.size w (w.alloc (.cells #[.int .i64 p1, .int .i64 p2, .int .i64 p3, .int .i64 p4] 23)) := by (repeat' (first | with_reducible exact Below.refl _ _ | with_reducible assumption | with_reducible refine Below.setCell ?_ ?_ _ | with_reducible refine Below.alloc ?_ ?_ _ | with_reducible refine Below.drew ?_ | with_reducible refine belDrewN ?_ _ | with_reducible refine Below.trans ?_ (Below.mono (by assumption) ?_) | omega | (simp; omega) | (simp; done)))
    go_wp2_with fail
    go_region_held3 (fun W1 => Below w.heap.size w W1 ∧ w.heap.size < W1.heap.size ∧ W1.cell? ⟨w.heap.size, 0, none⟩ = some (.int .i64 p1) ∧ W1.cell? ⟨w.heap.size, 1, none⟩ = some (.int .i64 p2) ∧ W1.cell? ⟨w.heap.size, 2, none⟩ = some (.int .i64 p3) ∧ W1.cell? ⟨w.heap.size, 3, none⟩ = some (.int .i64 p4)) ((repeat' apply And.intro) <;> first | (go_keep; done) | omega | (simp; done) | (simp; omega) | ((repeat' (first | with_reducible exact Below.refl _ _ | with_reducible assumption | with_reducible refine Below.setCell ?_ ?_ _ | with_reducible refine Below.alloc ?_ ?_ _ | with_reducible refine Below.drew ?_ | with_reducible refine belDrewN ?_ _ | with_reducible refine Below.trans ?_ (Below.mono (by assumption) ?_) | omega | (simp; omega) | (simp; done))); done)) (first | (go_at_call 20; have hB_hb1 := (‹Below w.heap.size w _ ∧ _›).1; refine (toFlowS_any xs _ _ (hs.below (‹Below w.heap.size w _ ∧ _›.1)) hn).mono ?_; rintro e w1 ⟨v1, rfl, ho1, hb1⟩; have hz_hb1 := hb1.size; have k0_hb1 := ownCells hb1 (w.heap.size) (by omega)) | (go_at_call 12; have hB_hb2 := (‹Below w.heap.size w _ ∧ _›).1; refine (toPacket_any _ _ _ _ _).mono ?_; rintro e w2 ⟨rfl, hb2⟩; have hz_hb2 := hb2.size; have k0_hb2 := ownCells hb2 (w.heap.size) (by omega)) | (go_at_call 23; have hB_hb3 := (‹Below w.heap.size w _ ∧ _›).1; refine (specKF_any xs _ _ _ _ _ _ _ (ho1.fls.below (by (repeat' (first | with_reducible exact Below.refl _ _ | with_reducible assumption | with_reducible refine Below.setCell ?_ ?_ _ | with_reducible refine Below.alloc ?_ ?_ _ | with_reducible refine Below.drew ?_ | with_reducible refine belDrewN ?_ _ | with_reducible refine Below.trans ?_ (Below.mono (by assumption) ?_) | omega | (simp; omega) | (simp; done)))))).mono ?_; rintro e w3 ⟨rfl, hb3⟩; have hz_hb3 := hb3.size; have k0_hb3 := ownCells hb3 (w.heap.size) (by omega)))
    obtain ⟨hw3, hz3, c0, c1, c2, c3⟩ : Below w.heap.size w w3 ∧ w.heap.size < w3.heap.size ∧ w3.cell? ⟨w.heap.size, 0, none⟩ = some (.int .i64 p1) ∧ w3.cell? ⟨w.heap.size, 1, none⟩ = some (.int .i64 p2) ∧ w3.cell? ⟨w.heap.size, 2, none⟩ = some (.int .i64 p3) ∧ w3.cell? ⟨w.heap.size, 3, none⟩ = some (.int .i64 p4) := (by assumption)
    go_wp2_with fail
    refine (toFlowS_any xs _ _ (hs.below hw3) hn).mono ?_
    rintro e w4 ⟨v4, rfl, ho4, hb4⟩
    have hw4 := hw3.trans (hb4.mono hw3.size)
    have hz4 := hb4.size
    have k4 := ownCells hb4 w.heap.size (by omega)
    go_wp2_with fail
    refine (toPacket_any _ _ _ _ _).mono ?_
    rintro e w5 ⟨rfl, hb5⟩
    have hw5 := hw4.trans (hb5.mono hw4.size)
    go_wp2_with fail
    refine (implKF_any xs _ _ _ _ _ _ _ (ho4.fls.below hb5) (ht.below hw5)).mono ?_
    rintro e w6 ⟨rfl, hb6⟩
    have hw6 := hw5.trans (hb6.mono hw5.size)
    go_wp2_with fail
    refine (toFlowS_any xs _ _ (hs.below hw6) hn).mono ?_
    rintro e w7 ⟨v7, rfl, ho7, hb7⟩
    have hw7 := hw6.trans (hb7.mono hw6.size)
    go_wp2_with fail
    refine (eqFlowS_b (ho4.fls.below ((hb5.trans (hb6.mono hb5.size)).trans (hb7.mono (Nat.le_trans hb5.size hb6.size)))) ho7.fls (decide_eq_true rfl)).mono ?_
    rintro e w8 ⟨rfl, hb8⟩
    go_wp2
    go_ret
    exact ⟨rfl, hw7.trans (hb8.mono hw7.size)⟩
  · go_enter Tryd.func6, Tryd.ntmps6
    go_wp2_with fail
    refine (szFlowS_any a xs.length cap 1048576 (by omega) (by omega) (by omega) _).mono ?_
    rw [lenBig _ hn]
    rintro e _ ⟨rfl, rfl⟩
    go_wp2
    go_ret
    exact ⟨rfl, by (repeat' (first | with_reducible exact Below.refl _ _ | with_reducible assumption | with_reducible refine Below.setCell ?_ ?_ _ | with_reducible refine Below.alloc ?_ ?_ _ | with_reducible refine Below.drew ?_ | with_reducible refine belDrewN ?_ _ | with_reducible refine Below.trans ?_ (Below.mono (by assumption) ?_) | omega | (simp; omega) | (simp; done)))⟩
end Go.Proofs.YtlppchkilinpfaaDoor
