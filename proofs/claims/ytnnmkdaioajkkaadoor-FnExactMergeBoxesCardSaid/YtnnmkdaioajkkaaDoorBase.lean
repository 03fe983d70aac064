/- Small laws on worlds and slices that the walks of this claim share. -/
import Derived.WalkKit
import Derived.WalkSpells
import Derived.WalkLawsBesides
import Derived.Deep.QuietTactic
import Derived.BigQuiet
import Derived.Lib.Hide
import Derived.StillTailTactics
import Derived.Deep.RegionHeld3
namespace Go.Proofs.YtnnmkdaioajkkaaDoor
open Go.RowKit

theorem bcell {W w1 : World} (hb : Below W.heap.size W w1) : (∀ b o, b < W.heap.size → w1.cell? ⟨b, o, none⟩ = W.cell? ⟨b, o, none⟩) ∧ (∀ b o, b < W.heap.size → w1.frozen? ⟨b, o, none⟩ = W.frozen? ⟨b, o, none⟩) :=
  ⟨fun b o h => hb.cell (p := ⟨b, o, none⟩) h, fun b o h => hb.frozen (p := ⟨b, o, none⟩) h⟩
theorem ret_bool {a b : Bool} (h : a = b) : Ending.returned (.bool a) = .returned (.bool b) := by rw [h]
theorem ret_int {k : IntKind} {a b : Int} (h : a = b) : Ending.returned (.int k a) = .returned (.int k b) := by rw [h]

theorem belDrewN {B : Nat} {a w : World} (h : Below B a w) : ∀ n, Below B a (w.drewN n)
  | 0 => h
  | _ + 1 => ⟨h.os, h.tape, h.output, h.size, h.block⟩
theorem ownCells {W w1 : World} (hb : Below W.heap.size W w1) (b : Nat) (h : b < W.heap.size) : ∀ o, w1.cell? ⟨b, o, none⟩ = W.cell? ⟨b, o, none⟩ := fun _ => hb.cell h
theorem belCells {B : Nat} {W w1 : World} (hb : Below B W w1) (b : Nat) (h : b < B) : ∀ o, w1.cell? ⟨b, o, none⟩ = W.cell? ⟨b, o, none⟩ := fun _ => hb.cell h
open Classical in
/-- x, if it has all that W has; else W: a name for whatever world stands behind calls that turn nothing of W. -/
noncomputable def over (W x : World) : World := if Below W.heap.size W x then x else W
theorem over_below (W x : World) : Below W.heap.size W (over W x) := by
  unfold over
  split
  · assumption
  · exact Below.refl _ _
theorem over_of {W x : World} (h : Below W.heap.size W x) : over W x = x := by unfold over; rw [if_pos h]
theorem below_over {W w' : World} (h : ∃ x, w' = over W x) : Below W.heap.size W w' := by
  obtain ⟨x, rfl⟩ := h
  exact over_below W x
theorem callsOver {P : Program} {f : FuncId} {args : Array Value} {W x : World} {v : Value}
    (h : Calls P f args (over W x) fun e w' => e = .returned v ∧ Below (over W x).heap.size (over W x) w') : Calls P f args (over W x) fun e w'' => e = .returned v ∧ ∃ y, w'' = over W y :=
  h.mono fun _ w' ⟨he, hb⟩ => ⟨he, w', (over_of ((over_below W x).trans (hb.mono (over_below W x).size))).symm⟩
theorem callsOverSame {P : Program} {f : FuncId} {args : Array Value} {W x : World} {v : Value}
    (h : Calls P f args (over W x) fun e w' => e = .returned v ∧ over W x = w') : Calls P f args (over W x) fun e w'' => e = .returned v ∧ ∃ y, w'' = over W y :=
  h.mono fun _ _ ⟨he, hb⟩ => ⟨he, x, hb.symm⟩
theorem wp_region_over {P : Program} {id : Nat} {Q : Exit → Act → World → Prop} {a : Act} {w : World} {l : List Oper} (hm : P.follows .mixedOrders = true) (hB : Region.lexB .any l.toArray = true)
    (h : (∀ (x : World) (b : Nat), b < w.heap.size → ∀ o, (over w x).cell? ⟨b, o, none⟩ = w.cell? ⟨b, o, none⟩) → wpQuiet P l.toArray (fun w' => ∃ x, w' = over w x) (fun a' => ∀ w', (∃ x, w' = over w x) → Q .normal a' w') l a) : (Code.region id l.toArray true).wp P Q a w :=
  wp_region_quiet (C := fun w' => ∃ x, w' = over w x) hm hB ⟨{ w with drawn := w.drawn + 1 }, (over_of (W := w) (x := { w with drawn := w.drawn + 1 }) ⟨rfl, rfl, rfl, Nat.le_refl _, fun _ _ => rfl⟩).symm⟩ (by simpa using h (fun x b hb o => (over_below w x).cell hb))
/-- n lies in lo..hi -/
def inB (n lo hi : Int) : Bool := decide (lo ≤ n ∧ n ≤ hi)
theorem inB_true {n lo hi : Int} (h1 : lo ≤ n) (h2 : n ≤ hi) : inB n lo hi = true := by simp [inB, *]
theorem inB_lo {n lo hi : Int} (h1 : n < lo) : inB n lo hi = false := by simp [inB]; omega
theorem inB_hi {n lo hi : Int} (h1 : hi < n) : inB n lo hi = false := by simp [inB]; omega
theorem inB_iff {n lo hi : Int} : inB n lo hi = true ↔ lo ≤ n ∧ n ≤ hi := by simp [inB]

/-- The cells from place o of block b on hold these values. -/
def CellsAt (w : World) (b o : Nat) (vs : List Value) : Prop := ∀ (j : Nat) c, vs[j]? = some c → w.cell? ⟨b, o + j, none⟩ = some c

theorem CellsAt.below {w w' : World} {b o : Nat} {vs : List Value} (h : CellsAt w b o vs) {B : Nat} (hb : b < B) (hw : Below B w w') : CellsAt w' b o vs :=
  fun j c hj => (hw.cell (p := ⟨b, o + j, none⟩) hb).trans (h j c hj)

/-- A slice of elements of sz cells each that reads as xs. -/
def SlAt {α : Type} (sz : Nat) (enc : α → List Value) (w : World) (v : Value) (xs : List α) : Prop :=
  ∃ a cap, v = .slice a xs.length cap ∧ xs.length ≤ cap ∧ cap ≤ maxLen ∧ ∀ (k : Nat) x, xs[k]? = some x → ∃ b o, a = some ⟨b, o, none⟩ ∧ b < w.heap.size ∧ CellsAt w b (o + k * sz) (enc x)

theorem SlAt.below {α : Type} {sz : Nat} {enc : α → List Value} {w w' : World} {v : Value} {xs : List α} (h : SlAt sz enc w v xs) (hw : Below w.heap.size w w') : SlAt sz enc w' v xs := by
  obtain ⟨a, cap, hv, h1, h2, hx⟩ := h
  refine ⟨a, cap, hv, h1, h2, fun k x hk => ?_⟩
  obtain ⟨b, o, ha, hb, hc⟩ := hx k x hk
  exact ⟨b, o, ha, Nat.lt_of_lt_of_le hb hw.size, hc.below hb hw⟩

theorem SlAt.nil {α : Type} (sz : Nat) (enc : α → List Value) (w : World) : SlAt sz enc w (.slice none 0 0) ([] : List α) :=
  ⟨none, 0, rfl, by simp, by simp, fun k x h => by simp at h⟩
end Go.Proofs.YtnnmkdaioajkkaaDoor
