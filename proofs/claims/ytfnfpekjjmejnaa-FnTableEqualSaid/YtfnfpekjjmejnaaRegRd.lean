/- Regions of the drawing functions: the reader moves, small slices are made. -/
import Derived.Test.YtfnfpekjjmejnaaReg
import Derived.Test.YtfnfpekjjmejnaaRd
namespace Go.Proofs.Ytfnfpekjjmejnaa
open Go.RowKit
/-- What every operation of such a region keeps: blocks from B on, and X once it holds. -/
structure EvR (B : Nat) (X : World → Prop) (w w' : World) : Prop where
  size : w.heap.size ≤ w'.heap.size
  block : ∀ k, B ≤ k → k < w.heap.size → w'.heap[k]? = w.heap[k]?
  x : X w → X w'
theorem EvR.refl (B : Nat) (X : World → Prop) (w : World) : EvR B X w w := ⟨Nat.le_refl _, fun _ _ _ => rfl, id⟩
theorem EvR.mv {B R : Nat} {X : World → Prop} {w w' : World} (hX : ∀ w w', Mv R w.heap.size w w' → X w → X w') (hR : R < B) (h : Mv R w.heap.size w w') : EvR B X w w' :=
  ⟨h.size, fun k hk hlt => h.block k hlt (by omega), hX w w' h⟩
theorem EvR.alloc {B R : Nat} {X : World → Prop} (w : World) (hX : ∀ w w', Mv R w.heap.size w w' → X w → X w') (hR : R < B) (o : Obj) : EvR B X w (w.alloc o) :=
  EvR.mv hX hR (Mv.of_below ((Below.refl _ _).alloc (Nat.le_refl _) o))
theorem EvR.cell {B : Nat} {X : World → Prop} {w w' : World} (h : EvR B X w w') {b o : Nat} (hb : B ≤ b) (hlt : b < w.heap.size) : w'.cell? ⟨b, o, none⟩ = w.cell? ⟨b, o, none⟩ := World.cell?_of_block (a := ⟨b, o, none⟩) (h.block b hb hlt)
/-- The class of worlds: the reader at a place not far behind q0, all else as in W but for the blocks mu, and Y. -/
structure RC (R : Nat) (bs : List Int) (q0 k : Nat) (W : World) (mu : List Nat) (Y : World → Prop) (m : Nat) (w : World) : Prop where
  rd : ∃ q, RdAt R bs w q ∧ q ≤ q0 + k * m
  os : w.os = W.os
  tape : w.tape = W.tape
  output : w.output = W.output
  size : W.heap.size ≤ w.heap.size
  block : ∀ j, j < W.heap.size → j ≠ R → j ∉ mu → w.heap[j]? = W.heap[j]?
  y : Y w
section
variable {R : Nat} {bs : List Int} {q0 k : Nat} {W : World} {mu : List Nat} {Y : World → Prop} {m : Nat} {w w' : World}
theorem RC.same (h : RC R bs q0 k W mu Y m w) : RC R bs q0 k W mu Y (m + 1) w :=
  ⟨h.rd.imp fun q hq => ⟨hq.1, by rw [Nat.mul_succ]; omega⟩, h.os, h.tape, h.output, h.size, h.block, h.y⟩
theorem RC.start {q : Nat} (h : RdAt R bs W q) (hq : q ≤ q0) (hY : Y { W with drawn := W.drawn + 1 }) : RC R bs q0 k W mu Y 0 { W with drawn := W.drawn + 1 } :=
  ⟨⟨q, ⟨h.lt, h.code, h.place, h.frz⟩, by omega⟩, rfl, rfl, rfl, Nat.le_refl _, fun _ _ _ _ => rfl, hY⟩
theorem RC.mv (h : RC R bs q0 k W mu Y m w) (hY : ∀ w w', Mv R w.heap.size w w' → Y w → Y w') {q' : Nat} (hr : RdAt R bs w' q') (hq : q' ≤ q0 + k * m + k) (hm : Mv R w.heap.size w w') : RC R bs q0 k W mu Y (m + 1) w' :=
  ⟨⟨q', hr, by rw [Nat.mul_succ]; omega⟩, hm.os.trans h.os, hm.tape.trans h.tape, hm.output.trans h.output, Nat.le_trans h.size hm.size, fun j hj h1 h2 => (hm.block j (Nat.lt_of_lt_of_le hj h.size) h1).trans (h.block j hj h1 h2), hY _ _ hm h.y⟩
theorem RC.alloc (h : RC R bs q0 k W mu Y m w) (hY : ∀ w w', Mv R w.heap.size w w' → Y w → Y w') (o : Obj) : RC R bs q0 k W mu Y (m + 1) (w.alloc o) := by
  obtain ⟨q, hr, hq⟩ := h.rd
  exact h.mv hY (hr.below ((Below.refl _ _).alloc (Nat.le_refl _) o)) (by omega) (Mv.of_below ((Below.refl _ _).alloc (Nat.le_refl _) o))
theorem RC.cell (h : RC R bs q0 k W mu Y m w) (b : Nat) (hb : b < W.heap.size) (h1 : b ≠ R) (h2 : b ∉ mu) (o : Nat) : w.cell? ⟨b, o, none⟩ = W.cell? ⟨b, o, none⟩ := World.cell?_of_block (a := ⟨b, o, none⟩) (h.block b hb h1 h2)
theorem RC.yto {Y' : World → Prop} (h : RC R bs q0 k W mu Y m w) (hY : Y w → Y' w) : RC R bs q0 k W mu Y' m w := ⟨h.rd, h.os, h.tape, h.output, h.size, h.block, hY h.y⟩
/-- A store into a block of mu. -/
theorem RC.store (h : RC R bs q0 k W mu Y m w) {A : Nat} (hA : A ∈ mu) (hR : R < A) (hm : Mv A w.heap.size w w') (hY : Y w') : RC R bs q0 k W mu Y (m + 1) w' := by
  obtain ⟨q, hr, hq⟩ := h.rd
  refine ⟨⟨q, hr.up ?_, by rw [Nat.mul_succ]; omega⟩, hm.os.trans h.os, hm.tape.trans h.tape, hm.output.trans h.output, Nat.le_trans h.size hm.size, fun j hj h1 h2 => ?_, hY⟩
  · have := hr.lt
    exact hm.below (by omega) (by omega)
  · exact (hm.block j (Nat.lt_of_lt_of_le hj h.size) (fun e => h2 (e ▸ hA))).trans (h.block j hj h1 h2)
theorem EvR.store {B : Nat} {X : World → Prop} {A : Nat} (hA : A < B) (hm : Mv A w.heap.size w w') (hX : X w') : EvR B X w w' :=
  ⟨hm.size, fun j hj hl => hm.block j hl (by omega), fun _ => hX⟩
end
theorem OwnSl.from {α : Type} {base e sz : Nat} {enc : α → List Value} {w w' : World} {v : Value} {ys : List α} (h : OwnSl base e sz enc w v ys) (hb : ∀ g, base ≤ g → g < w.heap.size → w'.heap[g]? = w.heap[g]?) : OwnSl base e sz enc w' v ys := by
  refine ⟨h.1, ?_⟩
  obtain ⟨_, h | ⟨g, cap, cur, rfl, hg, hh, r⟩⟩ := h
  · exact Or.inl h
  · exact Or.inr ⟨g, cap, cur, rfl, hg, (hb g hg (Array.getElem?_eq_some_iff.1 hh).1).trans hh, r⟩
theorem nameMv {R B : Nat} {w w' : World} (_ : Mv R B w w') : ∃ x : World, x = w' := ⟨w', rfl⟩
/-- What an operation's value may be. -/
abbrev WV := World → Value → Prop
def FAny : WV := fun _ _ => True
def FIs (c : Value) : WV := fun _ v => v = c
def FI (lo hi : Int) : WV := fun _ v => ∃ x, v = .int .i64 x ∧ lo ≤ x ∧ x ≤ hi
def FSl (B n : Nat) (lo hi : Int) : WV := fun w v => ∃ b, v = .slice (some ⟨b, 0, none⟩) n n ∧ B ≤ b ∧ b < w.heap.size ∧ ∀ j, j < n → ∃ x, w.cell? ⟨b, j, none⟩ = some (.int .i64 x) ∧ lo ≤ x ∧ x ≤ hi
def FPt (B : Nat) (lo hi : Int) : WV := fun w v => ∃ b o, v = .pointer (some ⟨b, o, none⟩) ∧ B ≤ b ∧ b < w.heap.size ∧ ∃ x, w.cell? ⟨b, o, none⟩ = some (.int .i64 x) ∧ lo ≤ x ∧ x ≤ hi
def FX (X : World → Prop) : WV := fun w _ => X w
theorem fis {c : Value} {w : World} {v : Value} (h : FIs c w v) : v = c := h
theorem fx {X : World → Prop} {w : World} {v : Value} (h : FX X w v) : X w := h
theorem fi {lo hi : Int} {w : World} {v : Value} (h : FI lo hi w v) : ∃ x, v = .int .i64 x ∧ lo ≤ x ∧ x ≤ hi := h
/-- As an index. -/
theorem fin {hi : Int} {w : World} {v : Value} (h : FI 0 hi w v) : ∃ n : Nat, v = .int .i64 n ∧ (n : Int) ≤ hi := by
  obtain ⟨x, rfl, h0, h1⟩ := h
  obtain ⟨n, rfl⟩ := Int.eq_ofNat_of_zero_le h0
  exact ⟨n, rfl, h1⟩
theorem fsl {B n : Nat} {lo hi : Int} {w : World} {v : Value} (h : FSl B n lo hi w v) : ∃ b, v = .slice (some ⟨b, 0, none⟩) n n ∧ B ≤ b ∧ b < w.heap.size ∧ ∀ j, j < n → ∃ x, w.cell? ⟨b, j, none⟩ = some (.int .i64 x) ∧ lo ≤ x ∧ x ≤ hi := h
theorem fpt {B : Nat} {lo hi : Int} {w : World} {v : Value} (h : FPt B lo hi w v) : ∃ b o, v = .pointer (some ⟨b, o, none⟩) ∧ B ≤ b ∧ b < w.heap.size ∧ ∃ x, w.cell? ⟨b, o, none⟩ = some (.int .i64 x) ∧ lo ≤ x ∧ x ≤ hi := h
def Stb (B : Nat) (X : World → Prop) (f : WV) : Prop := ∀ w w' v, EvR B X w w' → f w v → f w' v
theorem stb_any (B : Nat) (X : World → Prop) : Stb B X FAny := fun _ _ _ _ h => h
theorem stb_is (B : Nat) (X : World → Prop) (c : Value) : Stb B X (FIs c) := fun _ _ _ _ h => h
theorem stb_i (B : Nat) (X : World → Prop) (lo hi : Int) : Stb B X (FI lo hi) := fun _ _ _ _ h => h
theorem stb_x (B : Nat) (X : World → Prop) : Stb B X (FX X) := fun _ _ _ he h => he.x h
theorem stb_sl (B n : Nat) (X : World → Prop) (lo hi : Int) : Stb B X (FSl B n lo hi) := fun _ _ _ he ⟨b, h1, h2, h3, h4⟩ =>
  ⟨b, h1, h2, Nat.lt_of_lt_of_le h3 he.size, fun j hj => let ⟨x, g1, g2⟩ := h4 j hj; ⟨x, (he.cell h2 h3).trans g1, g2⟩⟩
theorem stb_pt (B : Nat) (X : World → Prop) (lo hi : Int) : Stb B X (FPt B lo hi) := fun _ _ _ he ⟨b, o, h1, h2, h3, x, h4, h5⟩ =>
  ⟨b, o, h1, h2, Nat.lt_of_lt_of_le h3 he.size, x, (he.cell h2 h3).trans h4, h5⟩
def Fof (Fs : List WV) (i : Nat) : WV := match Fs[i]? with
  | some f => f
  | none => FAny
def StbAll (B : Nat) (X : World → Prop) : List WV → Prop
  | [] => True
  | f :: Fs => Stb B X f ∧ StbAll B X Fs
theorem stb_of {B : Nat} {X : World → Prop} : ∀ (Fs : List WV), StbAll B X Fs → ∀ (i : Nat) w w' v, EvR B X w w' → Fof Fs i w v → Fof Fs i w' v
  | [], _, _, _, _, _, _, h => h
  | _ :: _, hs, 0, w, w', v, he, h => hs.1 w w' v he h
  | _ :: Fs, hs, i + 1, w, w', v, he, h => stb_of Fs hs.2 i w w' v he h
end Go.Proofs.Ytfnfpekjjmejnaa
