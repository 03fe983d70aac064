/- Drawn packets. -/
import Derived.Test.YtajcogpfmpehkaaDoorRgX
import Derived.Test.YtajcogpfmpehkaaDoorBsA
import Derived.Deep.DeepCutAuto
namespace Go.Proofs.YtajcogpfmpehkaaDoor
open Go.RowKit
abbrev Pk.v (p : Pk) : Value := .agg #[.int .i64 p.from_, .int .i64 p.to_, .int .i64 p.port, .int .i64 p.proto]
/-- Four numbers in a block of the call's own. -/
structure Box4 (w : World) (b : Nat) (v0 v1 v2 v3 : Int) : Prop where
  lt : b < w.heap.size
  c0 : w.cell? ⟨b, 0, none⟩ = some (.int .i64 v0)
  c1 : w.cell? ⟨b, 1, none⟩ = some (.int .i64 v1)
  c2 : w.cell? ⟨b, 2, none⟩ = some (.int .i64 v2)
  c3 : w.cell? ⟨b, 3, none⟩ = some (.int .i64 v3)
  frz : ∀ j, w.frozen? ⟨b, j, none⟩ = false
theorem Box4.mv {R B : Nat} {w w' : World} {b : Nat} {v0 v1 v2 v3 : Int} (h : Box4 w b v0 v1 v2 v3) (hm : Mv R B w w') (hb : b < B) (hne : b ≠ R) : Box4 w' b v0 v1 v2 v3 :=
  ⟨Nat.lt_of_lt_of_le h.lt hm.size, (mvC hm b hb hne 0).trans h.c0, (mvC hm b hb hne 1).trans h.c1, (mvC hm b hb hne 2).trans h.c2, (mvC hm b hb hne 3).trans h.c3, fun j => (mvF hm b hb hne j).trans (h.frz j)⟩
theorem Box4.new (w : World) (v0 v1 v2 v3 : Int) (ty : TypeId) : Box4 (w.alloc (.cells #[.int .i64 v0, .int .i64 v1, .int .i64 v2, .int .i64 v3] ty)) w.heap.size v0 v1 v2 v3 :=
  ⟨by simp, by simp, by simp, by simp, by simp, frz_new w _ _⟩
theorem Box4.old {w : World} {b : Nat} {v0 v1 v2 v3 : Int} (h : Box4 w b v0 v1 v2 v3) (o : Obj) : Box4 (w.alloc o) b v0 v1 v2 v3 :=
  h.mv (R := w.heap.size) (B := w.heap.size) (Mv.of_below ((Below.refl _ _).alloc (Nat.le_refl _) _)) h.lt (Nat.ne_of_lt h.lt)
theorem Box4.some {w : World} {b : Nat} {v0 v1 v2 v3 : Int} (h : Box4 w b v0 v1 v2 v3) : ∀ j, j < 4 → (w.cell? ⟨b, j, none⟩).isSome = true := by
  intro j hj
  rcases (by omega : j = 0 ∨ j = 1 ∨ j = 2 ∨ j = 3) with rfl | rfl | rfl | rfl
  · rw [h.c0]; rfl
  · rw [h.c1]; rfl
  · rw [h.c2]; rfl
  · rw [h.c3]; rfl
/-- The drawn packet in the making: the answer's block is the first new one, the variable's block is b. -/
structure PkAll (R : Nat) (bs : List Int) (w : World) (b : Nat) (wx : World) (q : Nat) (v0 v1 v2 v3 : Int) : Prop where
  rd : RdAt R bs wx q
  B : Box4 wx b v0 v1 v2 v3
  A : Box4 wx w.heap.size 0 0 0 0
  mv : Mv R w.heap.size w wx
  hR : R < w.heap.size
  hb : w.heap.size < b
theorem PkAll.mv' {R : Nat} {bs : List Int} {w : World} {b : Nat} {wx wy : World} {q q' : Nat} {v0 v1 v2 v3 : Int} (S : PkAll R bs w b wx q v0 v1 v2 v3) (hr : RdAt R bs wy q') (hm : Mv R wx.heap.size wx wy) : PkAll R bs w b wy q' v0 v1 v2 v3 :=
  ⟨hr, S.B.mv hm S.B.lt (by have := S.hR; have := S.hb; omega), S.A.mv hm S.A.lt (by have := S.hR; omega), S.mv.trans (hm.mono S.mv.size), S.hR, S.hb⟩
theorem PkAll.al {R : Nat} {bs : List Int} {w : World} {b : Nat} {wx : World} {q : Nat} {v0 v1 v2 v3 : Int} (S : PkAll R bs w b wx q v0 v1 v2 v3) (o : Obj) : PkAll R bs w b (wx.alloc o) q v0 v1 v2 v3 :=
  have hb := (Below.refl wx.heap.size wx).alloc (Nat.le_refl _) o
  S.mv' (S.rd.below hb) (Mv.of_below hb)
theorem Box4.set {w : World} {b : Nat} {v0 v1 v2 v3 : Int} (h : Box4 w b v0 v1 v2 v3) (v : Int) :
    Box4 (w.setCell ⟨b, 0, none⟩ (.int .i64 v)) b v v1 v2 v3 ∧ Box4 (w.setCell ⟨b, 1, none⟩ (.int .i64 v)) b v0 v v2 v3 ∧
    Box4 (w.setCell ⟨b, 2, none⟩ (.int .i64 v)) b v0 v1 v v3 ∧ Box4 (w.setCell ⟨b, 3, none⟩ (.int .i64 v)) b v0 v1 v2 v := by
  obtain ⟨l, h0, h1, h2, h3, hf⟩ := h
  have s0 := World.cell?_setCell_same' w ⟨b, 0, none⟩ (.int .i64 v) (by rw [h0]; rfl)
  have s1 := World.cell?_setCell_same' w ⟨b, 1, none⟩ (.int .i64 v) (by rw [h1]; rfl)
  have s2 := World.cell?_setCell_same' w ⟨b, 2, none⟩ (.int .i64 v) (by rw [h2]; rfl)
  have s3 := World.cell?_setCell_same' w ⟨b, 3, none⟩ (.int .i64 v) (by rw [h3]; rfl)
  have o : ∀ i j : Nat, i ≠ j → (w.setCell ⟨b, i, none⟩ (.int .i64 v)).cell? ⟨b, j, none⟩ = w.cell? ⟨b, j, none⟩ := fun i j hij => World.cell?_setCell_other _ _ _ _ (by intro e; exact hij (Addr.mk.inj e).2.1)
  have z : ∀ i : Nat, (w.setCell ⟨b, i, none⟩ (.int .i64 v)).heap.size = w.heap.size := fun i => by simp [World.setCell]
  refine ⟨⟨by rw [z]; exact l, s0, (o 0 1 (by decide)).trans h1, (o 0 2 (by decide)).trans h2, (o 0 3 (by decide)).trans h3, fun j => by simpa using hf j⟩,
    ⟨by rw [z]; exact l, (o 1 0 (by decide)).trans h0, s1, (o 1 2 (by decide)).trans h2, (o 1 3 (by decide)).trans h3, fun j => by simpa using hf j⟩,
    ⟨by rw [z]; exact l, (o 2 0 (by decide)).trans h0, (o 2 1 (by decide)).trans h1, s2, (o 2 3 (by decide)).trans h3, fun j => by simpa using hf j⟩,
    ⟨by rw [z]; exact l, (o 3 0 (by decide)).trans h0, (o 3 1 (by decide)).trans h1, (o 3 2 (by decide)).trans h2, s3, fun j => by simpa using hf j⟩⟩
theorem PkAll.st {R : Nat} {bs : List Int} {w : World} {b : Nat} {wx : World} {q : Nat} {v0 v1 v2 v3 u0 u1 u2 u3 : Int} (S : PkAll R bs w b wx q v0 v1 v2 v3) {j : Nat} {v : Value} (hB : Box4 (wx.setCell ⟨b, j, none⟩ v) b u0 u1 u2 u3) : PkAll R bs w b (wx.setCell ⟨b, j, none⟩ v) q u0 u1 u2 u3 :=
  have hA : Below b wx (wx.setCell ⟨b, j, none⟩ v) := (Below.refl b wx).setCell (p := ⟨b, j, none⟩) (Nat.le_refl b) v
  have hlt := S.hb
  have hR := S.hR
  have hq := Mv.of_below (R := R) hA
  ⟨S.rd.up (hA.mono (by omega)), hB, S.A.mv hq hlt (by omega), S.mv.trans (hq.mono (by omega)), S.hR, S.hb⟩
def PkSt (R : Nat) (bs : List Int) (p : Nat) (w : World) (b : Nat) (wx : World) : Prop :=
  ∃ q v0 v1 v2 v3, PkAll R bs w b wx q v0 v1 v2 v3 ∧ q ≤ p
def DrawnPk (R : Nat) (bs : List Int) (p : Nat) (w : World) (e : Ending) (w' : World) : Prop :=
  ∃ (x : Pk) (q : Nat), e = .returned (Pk.v x) ∧ RdAt R bs w' q ∧ q ≤ p + 20 ∧ Mv R w.heap.size w w'
end Go.Proofs.YtajcogpfmpehkaaDoor
