/- Newly open packets: both functions. -/
import Derived.Test.YtajcogpfmpehkaaDoorFdI
import Derived.Test.YtajcogpfmpehkaaDoorPaI
import Derived.Test.YtajcogpfmpehkaaDoorFdS
namespace Go.Proofs.YtajcogpfmpehkaaDoor
open Go.RowKit
/-- The first k sets are there. -/
def SDm (b : Bx) (S : Nat) (w : World) (k : Nat) : Prop := ∀ j, j < 4 → ∃ v, w.cell? ⟨S, j, none⟩ = some v ∧ ((j < k ∧ Sps (S + 1) w v (b.getD j [])) ∨ (k ≤ j ∧ v = .slice none 0 0))
theorem SDm.below {b : Bx} {S : Nat} {w w' : World} {k : Nat} (h : SDm b S w k) (hS : S < w.heap.size) (hb : Below w.heap.size w w') : SDm b S w' k := fun j hj => by
  obtain ⟨v, h1, h2⟩ := h j hj
  exact ⟨v, (hb.cell (p := ⟨S, j, none⟩) hS).trans h1, h2.imp (fun ⟨g1, g2⟩ => ⟨g1, g2.below hb⟩) id⟩
theorem SDm.step {b : Bx} {S : Nat} {w : World} {k : Nat} {v : Value} (h : SDm b S w k) (hv : Sps (S + 1) w v (b.getD k [])) : SDm b S (w.setCell ⟨S, k, none⟩ v) (k + 1) := fun j hj => by
  have hkp : Kp (S + 1) w (w.setCell ⟨S, k, none⟩ v) := ⟨by simp, fun q q1 _ => Below.heap_setCell _ _ _ _ (by simp only; omega)⟩
  obtain ⟨u, h1, h2⟩ := h j hj
  by_cases e : j = k
  · subst e
    exact ⟨v, World.cell?_setCell_same' _ _ _ (by rw [h1]; rfl), .inl ⟨by omega, hv.keep hkp⟩⟩
  · refine ⟨u, by rw [World.cell?_setCell_other _ _ _ _ (fun e2 => e (Addr.mk.inj e2).2.1.symm)]; exact h1, ?_⟩
    rcases h2 with ⟨g1, g2⟩ | ⟨g1, g2⟩
    · exact .inl ⟨by omega, g2.keep hkp⟩
    · exact .inr ⟨by omega, g2⟩
def Zro4 (S : Nat) (w : World) : Prop := S < w.heap.size ∧ (∀ j, j < 4 → w.cell? ⟨S, j, none⟩ = some (.slice none 0 0)) ∧ ∀ j, w.frozen? ⟨S, j, none⟩ = false
theorem Zro4.below {S : Nat} {w w' : World} (h : Zro4 S w) (hb : Below w.heap.size w w') : Zro4 S w' :=
  ⟨Nat.lt_of_lt_of_le h.1 hb.size, fun j hj => (hb.cell (p := ⟨S, j, none⟩) h.1).trans (h.2.1 j hj), fun j => (hb.frozen (p := ⟨S, j, none⟩) h.1).trans (h.2.2 j)⟩
/-- Four cells of a block. -/
def C4 (S : Nat) (w : World) (v0 v1 v2 v3 : Value) : Prop := S < w.heap.size ∧ ∀ j v, [v0, v1, v2, v3][j]? = some v → w.cell? ⟨S, j, none⟩ = some v
theorem C4.below {S : Nat} {w w' : World} {v0 v1 v2 v3 : Value} (h : C4 S w v0 v1 v2 v3) (hb : Below w.heap.size w w') : C4 S w' v0 v1 v2 v3 :=
  ⟨Nat.lt_of_lt_of_le h.1 hb.size, fun j v hj => (hb.cell (p := ⟨S, j, none⟩) h.1).trans (h.2 j v hj)⟩
/-- The common packets of one box with those of a list. -/
def brow (f : Bx) (B : List Bx) : List Bx := (B.map (bmeet f)).filter (fun m => !bempty m)
theorem lit4_at (w : World) (a b c d : Value) (ty : TypeId) : SlAt 4 R4.enc (w.alloc (.cells #[a, b, c, d] ty)) (.slice (some ⟨w.heap.size, 0, none⟩) 1 1) [⟨a, b, c, d⟩] := by
  refine ⟨_, 1, rfl, by simp, by simp [maxLen], fun k x hk => ?_⟩
  match k, hk with
  | 0, hk =>
    cases hk
    refine ⟨w.heap.size, 0, rfl, by simp, fun j u hj => ?_⟩
    have := cellsNew w (R4.enc ⟨a, b, c, d⟩) ty j u hj
    rwa [Addr.add_lit] at this
  | k + 1, hk => simp at hk
end Go.Proofs.YtajcogpfmpehkaaDoor
