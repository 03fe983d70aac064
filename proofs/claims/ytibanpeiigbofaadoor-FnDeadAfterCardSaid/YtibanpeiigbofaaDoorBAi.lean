/- The program's box of all packets. -/
import Derived.Test.YtibanpeiigbofaaDoorAsD
import Derived.Test.YtibanpeiigbofaaDoorFnX
namespace Go.Proofs.YtibanpeiigbofaaDoor
open Go.RowKit
set_option maxHeartbeats 2000000 in
set_option maxRecDepth 100000 in
theorem implBA_any (w : World) (ht : Tab w) :
    Calls Tryd.prog 59 #[] w fun e w' => ∃ v', e = .returned (.agg #[v']) ∧ GRw w' w.heap.size w'.heap.size v' ball ∧ Below w.heap.size w w' := by
  obtain ⟨W, hW⟩ : ∃ W, w.alloc (.cells #[.slice none 0 0] 58) = W := ⟨_, rfl⟩
  have hal : Below w.heap.size w W := by rw [← hW]; exact (Below.refl _ _).alloc (Nat.le_refl _) _
  have c0 : W.cell? ⟨w.heap.size, 0, none⟩ = some (.slice none 0 0) := by rw [← hW]; simp
  have f0 : W.frozen? ⟨w.heap.size, 0, none⟩ = false := by rw [← hW]; exact frz_new w _ _ 0
  have qz : W.heap.size = w.heap.size + 1 := by rw [← hW]; simp
  have htW := ht.below hal
  go_enter Tryd.func59, Tryd.ntmps59
  go_wp2_with fail
  refine (allSides_any W htW).mono ?_
  rintro e w1 ⟨v0, v1, v2, v3, rfl, hall, hb1⟩
  have hw1 := hal.trans (hb1.mono hal.size)
  have hz1 := hb1.size
  have HA := Lib.hid hall
  replace c0 := (hb1.cell (p := ⟨w.heap.size, 0, none⟩) (by simp only; omega)).trans c0
  replace f0 := (hb1.frozen (p := ⟨w.heap.size, 0, none⟩) (by simp only; omega)).trans f0
  clear hb1 hall hW
  go_wp2_with fail
  refine (box_any ball v0 v1 v2 v3 w1 w1 HA.out (Below.refl _ _) (fun k xs hx => by
    have h4 := (List.getElem?_eq_some_iff.1 hx).1
    have hb := bvalid_lens (show bvalid ball = true by decide) k xs hx
    omega)).mono ?_
  rintro e w2 ⟨v4, rfl, ho4, hb2⟩
  have hw2 := hw1.trans (hb2.mono hw1.size)
  have hz2 := hb2.size
  replace c0 := (hb2.cell (p := ⟨w.heap.size, 0, none⟩) (by simp only; omega)).trans c0
  replace f0 := (hb2.frozen (p := ⟨w.heap.size, 0, none⟩) (by simp only; omega)).trans f0
  obtain ⟨a4, c4, rfl, -, -⟩ := ho4.rws.form
  have HO := Lib.hid (OwnRw.mono ho4 (show w.heap.size ≤ w1.heap.size by omega) (Nat.le_refl _))
  have HO1 := Lib.hid ho4.g
  have hw3 : Below w.heap.size w (w2.setCell ⟨w.heap.size, 0, none⟩ (.slice a4 ball.length c4)) := hw2.setCell (Nat.le_refl _) _
  clear hb2 ho4 HA
  go_wp2
  refine bodyPost_ret (v := .agg #[.slice a4 ball.length c4]) ?_ rfl ⟨_, rfl, ?_, hw3⟩
  · simp [results, Tryd.results59, go_sem, c0]
  · have h1 := OwnG.keepSet (u := .slice a4 ball.length c4) (p := ⟨w.heap.size, 0, none⟩) PSp.kind HO1.out (by simp only; omega)
    rw [show (w2.setCell ⟨w.heap.size, 0, none⟩ (.slice a4 ball.length c4)).heap.size = w2.heap.size from by simp]
    exact OwnG.low h1 (by omega)
end Go.Proofs.YtibanpeiigbofaaDoor
