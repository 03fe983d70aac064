/- The box of all packets: the program's walk. -/
import Derived.Test.YtajcogpfmpehkaaDoorDt
import Derived.Test.YtajcogpfmpehkaaDoorFmZ
namespace Go.Proofs.YtajcogpfmpehkaaDoor
open Go.RowKit
/-- The first k sets are there. -/
def SD (S : Nat) (w : World) (k : Nat) : Prop := ∀ j, j < 4 → ∃ v, w.cell? ⟨S, j, none⟩ = some v ∧ ((j < k ∧ Sps (S + 1) w v [⟨0, top j⟩]) ∨ (k ≤ j ∧ v = .slice none 0 0))
theorem SD.below {S : Nat} {w w' : World} {k : Nat} (h : SD S w k) (hS : S < w.heap.size) (hb : Below w.heap.size w w') : SD S w' k := fun j hj => by
  obtain ⟨v, h1, h2⟩ := h j hj
  exact ⟨v, (hb.cell (p := ⟨S, j, none⟩) hS).trans h1, h2.imp (fun ⟨g1, g2⟩ => ⟨g1, g2.below hb⟩) id⟩
theorem SD.step {S : Nat} {w : World} {k : Nat} {v : Value} (h : SD S w k) (_hS : S < w.heap.size) (hk : k < 4) (hv : Sps (S + 1) w v [⟨0, top k⟩]) : SD S (w.setCell ⟨S, k, none⟩ v) (k + 1) := fun j hj => by
  have hkp : Kp (S + 1) w (w.setCell ⟨S, k, none⟩ v) := ⟨by simp, fun q q1 _ => Below.heap_setCell _ _ _ _ (by simp only; omega)⟩
  obtain ⟨u, h1, h2⟩ := h j hj
  by_cases e : j = k
  · subst e
    exact ⟨v, World.cell?_setCell_same' _ _ _ (by rw [h1]; rfl), .inl ⟨by omega, hv.keep hkp⟩⟩
  · refine ⟨u, by rw [World.cell?_setCell_other _ _ _ _ (fun e2 => e (Addr.mk.inj e2).2.1.symm)]; exact h1, ?_⟩
    rcases h2 with ⟨g1, g2⟩ | ⟨g1, g2⟩
    · exact .inl ⟨by omega, g2.keep hkp⟩
    · exact .inr ⟨by omega, g2⟩
end Go.Proofs.YtajcogpfmpehkaaDoor
