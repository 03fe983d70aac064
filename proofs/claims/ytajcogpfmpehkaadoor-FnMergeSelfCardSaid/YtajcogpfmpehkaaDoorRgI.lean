/- The iterator over the pieces of a cut: the program's walk, for every loop body that keeps its word. -/
import Derived.RangeFuncNested
import Derived.RangeFuncBound
import Derived.RangeFuncCalls
import Derived.RangeFuncLeaves
import Derived.Shelf.Abstract
import Derived.Shelf.RegionOpen
import Derived.WalkKit
import Derived.OwnWalkIn
import Derived.TacticsInMore
import Derived.LoopNIn
import Derived.LoopIn
import Derived.Deep.DeepCutAuto
import Derived.Test.YtajcogpfmpehkaaDoorRgA
import Derived.Test.YtajcogpfmpehkaaDoorRgX
namespace Go.Proofs.YtajcogpfmpehkaaDoor
open Go.RowKit Go.Shelf
attribute [local go_sem] Oper.semAt_some
/-- The block that the slice in cell B owns. -/
def obk (B : Nat) (W : World) : Option Nat := match W.cell? ⟨B, 0, none⟩ with
  | some v => v.ownBlock
  | none => none
theorem obk_same {B : Nat} {W W' : World} (h : W'.heap[B]? = W.heap[B]?) : obk B W' = obk B W := by
  unfold obk
  rw [World.cell?_of_block (show W'.heap[(⟨B, 0, none⟩ : Addr).block]? = W.heap[(⟨B, 0, none⟩ : Addr).block]? from h)]
/-- The blocks that are written while the pieces come. -/
def PB (X : Nat → Prop) (B l h : Nat) (o : Option Nat) (k : Nat) : Prop := k = B ∨ k = l ∨ k = h ∨ some k = o ∨ X k
/-- What a round keeps. -/
def KBd (B l : Nat) (W W' : World) : Prop := W.heap.size ≤ W'.heap.size ∧ ∀ k, k < W.heap.size → k ≠ B → k ≠ l → some k ≠ obk B W → W'.heap[k]? = W.heap[k]? ∧ some k ≠ obk B W'
/-- What the iterator reads, and what it knows of its places. -/
structure RC (X : Nat → Prop) (B l s1 s2 h : Nat) (vs us : List Value) (a b : Bx) (W : World) : Prop where
  hb : B < W.heap.size
  hh : h < W.heap.size
  h1 : s1 < W.heap.size
  h2 : s2 < W.heap.size
  c1 : ∀ (j : Nat) v, vs[j]? = some v → W.cell? ⟨s1, j, none⟩ = some v
  c2 : ∀ (j : Nat) v, us[j]? = some v → W.cell? ⟨s2, j, none⟩ = some v
  n1 : some s1 ≠ obk B W
  n2 : some s2 ≠ obk B W
  n3 : some h ≠ obk B W
  g1 : All2 (SpV (PB X B l h (obk B W)) W) vs a
  g2 : All2 (SpV (PB X B l h (obk B W)) W) us b
structure RN (B l s1 s2 h : Nat) : Prop where
  a1 : s1 ≠ B
  a2 : s1 ≠ l
  b1 : s2 ≠ B
  b2 : s2 ≠ l
  d1 : h ≠ B
  d2 : h ≠ l
/-- A step of the iterator's: its own block h alone is turned. -/
structure KIt (h : Nat) (W W' : World) : Prop where
  size : W.heap.size ≤ W'.heap.size
  blk : ∀ k, k < W.heap.size → k ≠ h → W'.heap[k]? = W.heap[k]?
  env : W'.os = W.os ∧ W'.tape = W.tape ∧ W'.output = W.output
theorem KIt.below {h : Nat} {W W' : World} (hb : Below W.heap.size W W') : KIt h W W' := ⟨hb.size, fun k hk _ => hb.block k hk, hb.os, hb.tape, hb.output⟩
theorem KIt.trans {h : Nat} {A B C : World} (x : KIt h A B) (y : KIt h B C) : KIt h A C := ⟨Nat.le_trans x.1 y.1, fun k hk hn => (y.2 k (Nat.lt_of_lt_of_le hk x.1) hn).trans (x.2 k hk hn), y.3.1.trans x.3.1, y.3.2.1.trans x.3.2.1, y.3.2.2.trans x.3.2.2⟩
theorem KIt.set (h j : Nat) (W : World) (v : Value) : KIt h W (W.setCell ⟨h, j, none⟩ v) := ⟨by simp, fun k _ hn => Below.heap_setCell _ _ _ _ hn, rfl, rfl, rfl⟩
theorem KIt.low {h n : Nat} {W W' : World} (hk : KIt h W W') (hn : n ≤ h) (hz : n ≤ W.heap.size) : Below n W W' := ⟨hk.3.1, hk.3.2.1, hk.3.2.2, hk.1, fun k k1 => hk.2 k (by omega) (by omega)⟩
theorem SpV.it {X : Nat → Prop} {B l h : Nat} {W W' : World} {v : Value} {xs : List Sp} (hd : h ≠ B) (hk : KIt h W W') (hB : B < W.heap.size) (g : SpV (PB X B l h (obk B W)) W v xs) : SpV (PB X B l h (obk B W')) W' v xs := by
  rw [obk_same (hk.2 B hB (fun e => hd e.symm))]
  exact g.keep hk.1 (fun k hk' hp => ⟨hk.2 k hk' (fun e => hp (.inr (.inr (.inl e)))), hp⟩)
theorem RC.it {X : Nat → Prop} {B l s1 s2 h : Nat} {vs us : List Value} {a b : Bx} {W W' : World} (hn : RN B l s1 s2 h) (k1 : s1 ≠ h) (k2 : s2 ≠ h) (H : RC X B l s1 s2 h vs us a b W) (hk : KIt h W W') : RC X B l s1 s2 h vs us a b W' := by
  have ho : obk B W' = obk B W := obk_same (hk.2 B H.hb (fun e => hn.d1 e.symm))
  refine ⟨Nat.lt_of_lt_of_le H.hb hk.1, Nat.lt_of_lt_of_le H.hh hk.1, Nat.lt_of_lt_of_le H.h1 hk.1, Nat.lt_of_lt_of_le H.h2 hk.1, fun j v hj => ?_, fun j v hj => ?_, by rw [ho]; exact H.n1, by rw [ho]; exact H.n2, by rw [ho]; exact H.n3, H.g1.mono (fun _ _ g => g.it hn.d1 hk H.hb), H.g2.mono (fun _ _ g => g.it hn.d1 hk H.hb)⟩
  · exact (World.cell?_of_block (hk.2 s1 H.h1 k1)).trans (H.c1 j v hj)
  · exact (World.cell?_of_block (hk.2 s2 H.h2 k2)).trans (H.c2 j v hj)
/-- The loop's body, as the iterator sees it. -/
structure Rnd (X : Nat → Prop) (B l : Nat) (J : Nat → List Bx → World → Prop) (Jx : World → Prop) : Prop where
  st : ∀ h pre W W', J h pre W → KIt h W W' → J h pre W'
  ok : ∀ h pre W, J h pre W → B < W.heap.size ∧ l < W.heap.size ∧ h ≠ B ∧ h ≠ l ∧ some h ≠ obk B W ∧ ∀ z, obk B W = some z → z < W.heap.size
  tb : ∀ h pre W, J h pre W → Tab W
  y1 : ∀ h pre (v0 v1 v2 v3 : Value) bx W, J h pre W → h < W.heap.size → pre.length < 4 → All2 (SpV (PB X B l h (obk B W)) W) [v0, v1, v2, v3] bx → YieldAt Fence.wide 1 Tryd.prog l #[.agg #[v0, v1, v2, v3], .bool true] W fun e W' => e = .returned (.bool true) ∧ J h (pre ++ [bx]) W' ∧ KBd B l W W'
  y0 : ∀ h pre W, J h pre W → YieldAt Fence.wide 1 Tryd.prog l #[.agg #[.slice none 0 0, .slice none 0 0, .slice none 0 0, .slice none 0 0], .bool false] W fun e W' => e = .returned (.bool false) ∧ Jx W'
end Go.Proofs.YtajcogpfmpehkaaDoor
