/- One flow copied. -/
import Derived.Test.YtlppchkilinpfaaDoorFlP
import Derived.Test.YtlppchkilinpfaaDoorLRevA
import Derived.Test.YtlppchkilinpfaaDoorSetAll
namespace Go.Proofs.YtlppchkilinpfaaDoor
open Go.RowKit
set_option maxHeartbeats 400000 in
theorem toFlow_any (a b c d t : Int) (w : World) :
    Calls Tryd.prog 40 #[.agg #[.int .i64 a, .int .i64 b, .int .i64 c, .int .i64 d, .int .i64 t]] w fun e w' => e = .returned (.agg #[.int .i64 a, .int .i64 b, .int .i64 c, .int .i64 d, .int .i64 t]) ∧ Below w.heap.size w w' := by
  go_enter Tryd.func40, Tryd.ntmps40
  go_wp2_with fail
  refine (toPacket_any _ _ _ _ _).mono ?_
  rintro e w1 ⟨rfl, hb⟩
  have hz := hb.size; simp at hz
  have kk := ownCells hb (w.heap.size) (by (try simp) <;> omega); have a0 := kk 0; have a1 := kk 1; have a2 := kk 2; have a3 := kk 3; have a4 := kk 4; clear kk; (try simp [go_sem] at a0); (try simp [go_sem] at a1); (try simp [go_sem] at a2); (try simp [go_sem] at a3); (try simp [go_sem] at a4)
  have kk := ownCells hb (w.heap.size + 1) (by (try simp) <;> omega); have r0 := kk 0; have r1 := kk 1; have r2 := kk 2; have r3 := kk 3; have r4 := kk 4; clear kk; (try simp [go_sem] at r0); (try simp [go_sem] at r1); (try simp [go_sem] at r2); (try simp [go_sem] at r3); (try simp [go_sem] at r4)
  have kk := ownCells hb (w.heap.size + 2) (by (try simp) <;> omega); have q0 := kk 0; have q1 := kk 1; have q2 := kk 2; have q3 := kk 3; have q4 := kk 4; clear kk; (try simp [go_sem] at q0); (try simp [go_sem] at q1); (try simp [go_sem] at q2); (try simp [go_sem] at q3); (try simp [go_sem] at q4)
  have hb1 : Below w.heap.size w w1 := by (repeat' (first | with_reducible exact Below.refl _ _ | with_reducible assumption | with_reducible refine Below.setCell ?_ ?_ _ | with_reducible refine Below.alloc ?_ ?_ _ | with_reducible refine Below.drew ?_ | with_reducible refine belDrewN ?_ _ | with_reducible refine Below.trans ?_ (Below.mono (by assumption) ?_) | omega | (simp; omega) | (simp; done)))
  obtain ⟨hc, hf⟩ := bcell hb
  have hzw_0 : w.heap.size < w1.heap.size := (by omega); have hzw_1 : w.heap.size + 1 < w1.heap.size := (by omega); have hzw_2 : w.heap.size + 2 < w1.heap.size := (by omega)
  clear hc hb
  go_wp2
  refine bodyPost_ret (v := .agg #[.int .i64 a, .int .i64 b, .int .i64 c, .int .i64 d, .int .i64 t]) (run_resCell (b := w.heap.size + 1) (o := 0) (cs := [.int .i64 a, .int .i64 b, .int .i64 c, .int .i64 d, .int .i64 t]) rfl rfl Tryd.isAgg45 Tryd.sizeOf45 ?_) rfl ⟨rfl, by (repeat' (first | with_reducible exact Below.refl _ _ | with_reducible assumption | with_reducible refine Below.setCell ?_ ?_ _ | with_reducible refine Below.alloc ?_ ?_ _ | with_reducible refine Below.drew ?_ | with_reducible refine belDrewN ?_ _ | with_reducible refine Below.trans ?_ (Below.mono (by assumption) ?_) | omega | (simp; omega) | (simp; done)))⟩
  intro j v hj
  have hr : (w1.cell? ⟨w.heap.size + 1, 0, none⟩).isSome = true ∧ (w1.cell? ⟨w.heap.size + 1, 1, none⟩).isSome = true ∧ (w1.cell? ⟨w.heap.size + 1, 2, none⟩).isSome = true ∧ (w1.cell? ⟨w.heap.size + 1, 3, none⟩).isSome = true ∧ (w1.cell? ⟨w.heap.size + 1, 4, none⟩).isSome = true := by simp [r0, r1, r2, r3, r4]
  obtain ⟨s0, s1, s2, s3, s4⟩ := hr
  clear r0 r1 r2 r3 r4 q0 q1 q2 q3 q4 a0 a1 a2 a3 a4 hf
  match j, hj with
  | 0, hj => cases hj; simp [World.cell?_setCell_same', World.cell?_setCell_other, s0]
  | 1, hj => cases hj; simp [World.cell?_setCell_same', World.cell?_setCell_other, s1]
  | 2, hj => cases hj; simp [World.cell?_setCell_same', World.cell?_setCell_other, s2]
  | 3, hj => cases hj; simp [World.cell?_setCell_same', World.cell?_setCell_other, s3]
  | 4, hj => cases hj; simp [World.cell?_setCell_same', World.cell?_setCell_other, s4]
  | j + 5, hj => simp at hj
end Go.Proofs.YtlppchkilinpfaaDoor
