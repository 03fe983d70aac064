/- DrawMergeBoxes: two drawn boxes. -/
import Derived.Test.YtajcogpfmpehkaaDoorTwB
namespace Go.Proofs.YtajcogpfmpehkaaDoor
open Go.RowKit
def DrewTw (w : World) (e : Ending) (w' : World) : Prop :=
  ∃ v u a b, e = .returned (.tuple #[.agg #[v], .agg #[u]]) ∧ Rws 0 w' v a ∧ Rws 0 w' u b ∧ BSz a ∧ BSz b ∧ Below w.heap.size w w'
set_option maxHeartbeats 2000000 in
set_option maxRecDepth 100000 in
theorem drawMB_any (bs : List Int) (v : Value) (w : World) (h : CodeAt w v bs) : Calls Tryd.prog 22 #[v] w (DrewTw w) := by
  obtain ⟨W, hW⟩ : ∃ W, ((w.alloc (.cells #[.slice none 0 0] 32)).alloc (.cells #[.slice none 0 0] 32)) = W := ⟨_, rfl⟩
  have hal : Below w.heap.size w W := by rw [← hW]; (repeat' (first | with_reducible exact Below.refl _ _ | with_reducible assumption | with_reducible refine Below.setCell ?_ ?_ _ | with_reducible refine Below.alloc ?_ ?_ _ | with_reducible refine Below.drew ?_ | with_reducible refine belDrewN ?_ _ | with_reducible refine Below.trans ?_ (Below.mono (by assumption) ?_) | omega | (simp; omega) | (simp; done)))
  have qs : W.heap.size = w.heap.size + 1 + 1 := by rw [← hW]; simp
  have HA4 := alloc2_cf w #[.slice none 0 0] #[.slice none 0 0] 32 32
  rw [hW] at HA4
  have s0 : W.cell? ⟨w.heap.size, 0, none⟩ = some (.slice none 0 0) := by rw [(HA4.1 0).1]; rfl
  have t0 : W.frozen? ⟨w.heap.size, 0, none⟩ = false := (HA4.1 0).2
  have s1 : W.cell? ⟨w.heap.size + 1, 0, none⟩ = some (.slice none 0 0) := by rw [(HA4.2 0).1]; rfl
  have t1 : W.frozen? ⟨w.heap.size + 1, 0, none⟩ = false := (HA4.2 0).2
  clear HA4
  go_enter Tryd.func22, Tryd.ntmps22
  go_wp2_with fail
  refine (open_any bs _ W ⟨h.1.below hal, h.2⟩).mono ?_
  rintro e w1 ⟨R, bs', rfl, hR, hr1, hb1⟩
  have hz1 := hb1.size
  go_wp2_with fail
  refine (two_any R bs' 0 _ hr1 (by omega)).mono ?_
  rintro e w2 ⟨v2, u2, a, b, rfl, hA, hB, hsa, hsb, hm⟩
  have hz2 := hm.size
  obtain ⟨aa, ac, rfl, -, -⟩ := hA.form
  obtain ⟨ba, bc, rfl, -, -⟩ := hB.form
  have d0 := (mvC hm w.heap.size (by omega) (by omega) 0).trans ((hb1.cell (p := ⟨w.heap.size, 0, none⟩) (by simp only; omega)).trans s0)
  have e0 := (mvF hm w.heap.size (by omega) (by omega) 0).trans ((hb1.frozen (p := ⟨w.heap.size, 0, none⟩) (by simp only; omega)).trans t0)
  have d1 := (mvC hm (w.heap.size + 1) (by omega) (by omega) 0).trans ((hb1.cell (p := ⟨w.heap.size + 1, 0, none⟩) (by simp only; omega)).trans s1)
  have e1 := (mvF hm (w.heap.size + 1) (by omega) (by omega) 0).trans ((hb1.frozen (p := ⟨w.heap.size + 1, 0, none⟩) (by simp only; omega)).trans t1)
  have HA := Lib.hid hA
  have HB := Lib.hid hB
  have hB2 : Below w.heap.size w w2 := (hal.trans (hb1.mono hal.size)).trans (hm.below (by omega) (by omega))
  clear hA hB s0 s1 t0 t1 hb1 hm hr1
  go_wp2_with fail
  refine bodyPost_ret (v := .tuple #[.agg #[.slice aa a.length ac], .agg #[.slice ba b.length bc]]) ?_ rfl ⟨_, _, a, b, rfl, (HA.out.keep ?_).mono (by omega), (HB.out.keep ?_).mono (by omega), hsa, hsb, (hB2.setCell (by simp) _).setCell (by simp) _⟩
  · simp [results, Tryd.results22, go_sem, d0, d1]
  all_goals exact ⟨by simp, fun k k1 k2 => (Below.heap_setCell _ _ _ _ (by simp only; omega)).trans (Below.heap_setCell _ _ _ _ (by simp only; omega))⟩
end Go.Proofs.YtajcogpfmpehkaaDoor
