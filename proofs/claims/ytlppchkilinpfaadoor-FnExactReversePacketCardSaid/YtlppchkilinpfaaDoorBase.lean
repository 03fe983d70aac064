/- Small laws on worlds and slices that the walks of this claim share. -/
import Derived.WalkKit
import Derived.WalkSpells
import Derived.WalkLawsBesides
import Derived.Deep.QuietTactic
import Derived.BigQuiet
import Derived.Lib.Hide
import Derived.StillTailTactics
namespace Go.Proofs.YtlppchkilinpfaaDoor
open Go.RowKit

theorem bcell {W w1 : World} (hb : Below W.heap.size W w1) : (∀ b o, b < W.heap.size → w1.cell? ⟨b, o, none⟩ = W.cell? ⟨b, o, none⟩) ∧ (∀ b o, b < W.heap.size → w1.frozen? ⟨b, o, none⟩ = W.frozen? ⟨b, o, none⟩) :=
  ⟨fun b o h => hb.cell (p := ⟨b, o, none⟩) h, fun b o h => hb.frozen (p := ⟨b, o, none⟩) h⟩
theorem ret_bool {a b : Bool} (h : a = b) : Ending.returned (.bool a) = .returned (.bool b) := by rw [h]
theorem ret_int {k : IntKind} {a b : Int} (h : a = b) : Ending.returned (.int k a) = .returned (.int k b) := by rw [h]

/-- n lies in lo..hi -/
def inB (n lo hi : Int) : Bool := decide (lo ≤ n ∧ n ≤ hi)
theorem inB_true {n lo hi : Int} (h1 : lo ≤ n) (h2 : n ≤ hi) : inB n lo hi = true := by simp [inB, *]
theorem inB_lo {n lo hi : Int} (h1 : n < lo) : inB n lo hi = false := by simp [inB]; omega
theorem inB_hi {n lo hi : Int} (h1 : hi < n) : inB n lo hi = false := by simp [inB]; omega
theorem inB_iff {n lo hi : Int} : inB n lo hi = true ↔ lo ≤ n ∧ n ≤ hi := by simp [inB]

/-- The cells from place o of block b on hold these values. -/
def CellsAt (w : World) (b o : Nat) (vs : List Value) : Prop := ∀ (j : Nat) c, vs[j]? = some c → w.cell? ⟨b, o + j, none⟩ = some c

theorem CellsAt.below {w w' : World} {b o : Nat} {vs : List Value} (h : CellsAt w b o vs) {B : Nat} (hb : b < B) (hw : Below B w w') : CellsAt w' b o vs :=
  fun j c hj => (hw.cell (p := ⟨b, o + j, none⟩) hb).trans (h j c hj)

/-- A slice of elements of sz cells each that reads as xs. -/
def SlAt {α : Type} (sz : Nat) (enc : α → List Value) (w : World) (v : Value) (xs : List α) : Prop :=
  ∃ a cap, v = .slice a xs.length cap ∧ xs.length ≤ cap ∧ cap ≤ maxLen ∧ ∀ (k : Nat) x, xs[k]? = some x → ∃ b o, a = some ⟨b, o, none⟩ ∧ b < w.heap.size ∧ CellsAt w b (o + k * sz) (enc x)

theorem SlAt.below {α : Type} {sz : Nat} {enc : α → List Value} {w w' : World} {v : Value} {xs : List α} (h : SlAt sz enc w v xs) (hw : Below w.heap.size w w') : SlAt sz enc w' v xs := by
  obtain ⟨a, cap, hv, h1, h2, hx⟩ := h
  refine ⟨a, cap, hv, h1, h2, fun k x hk => ?_⟩
  obtain ⟨b, o, ha, hb, hc⟩ := hx k x hk
  exact ⟨b, o, ha, Nat.lt_of_lt_of_le hb hw.size, hc.below hb hw⟩

theorem SlAt.nil {α : Type} (sz : Nat) (enc : α → List Value) (w : World) : SlAt sz enc w (.slice none 0 0) ([] : List α) :=
  ⟨none, 0, rfl, by simp, by simp, fun k x h => by simp at h⟩
end Go.Proofs.YtlppchkilinpfaaDoor
