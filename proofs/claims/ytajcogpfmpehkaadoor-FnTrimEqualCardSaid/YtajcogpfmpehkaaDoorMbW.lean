/- Merging boxes: both functions. -/
import Derived.Test.YtajcogpfmpehkaaDoorMbI
import Derived.Test.YtajcogpfmpehkaaDoorRsC
import Derived.Test.YtajcogpfmpehkaaDoorDrT
import Derived.Test.YtajcogpfmpehkaaDoorRgX
import Derived.Test.YtajcogpfmpehkaaDoorFnX
namespace Go.Proofs.YtajcogpfmpehkaaDoor
open Go.RowKit
def mergeV (a b : Bx) : Option Bx := if bvalid a && bvalid b then mergeB a b else none
theorem GRw.nil (w : World) {lo hi : Nat} (h : lo ≤ hi) : GRw w lo hi (.slice none 0 0) [] := ⟨[], World.ownsRow_nil _ _ _ _, (fun z hz => by cases hz), h, h⟩
/-- The merged sets in the making: a value of four sets; those of R, if it is there. -/
def MG (R : Option Bx) (w : World) (z : Value) : Prop := ∃ a0 n0 p0 a1 n1 p1 a2 n2 p2 a3 n3 p3, z = .agg #[.slice a0 n0 p0, .slice a1 n1 p1, .slice a2 n2 p2, .slice a3 n3 p3] ∧ ∀ c, R = some c → All2 (Sps 0 w) [.slice a0 n0 p0, .slice a1 n1 p1, .slice a2 n2 p2, .slice a3 n3 p3] c
theorem MG.below {R : Option Bx} {w w' : World} {z : Value} (h : MG R w z) (hb : Below w.heap.size w w') : MG R w' z :=
  let ⟨a0, n0, p0, a1, n1, p1, a2, n2, p2, a3, n3, p3, h1, h2⟩ := h
  ⟨a0, n0, p0, a1, n1, p1, a2, n2, p2, a3, n3, p3, h1, fun c hc => (h2 c hc).mono (fun _ _ g => g.below hb)⟩
/-- A new block of four sets. -/
def MP (W w : World) (v : Value) : Prop := ∃ q, v = .pointer (some ⟨q, 0, none⟩) ∧ W.heap.size ≤ q ∧ q < w.heap.size ∧ (∀ j, w.frozen? ⟨q, j, none⟩ = false) ∧ w.cell? ⟨q, 0, none⟩ = some (.slice none 0 0) ∧ w.cell? ⟨q, 1, none⟩ = some (.slice none 0 0) ∧ w.cell? ⟨q, 2, none⟩ = some (.slice none 0 0) ∧ w.cell? ⟨q, 3, none⟩ = some (.slice none 0 0)
theorem MP.new {W : World} (w : World) (h : W.heap.size ≤ w.heap.size) : MP W (w.alloc (.cells #[.slice none 0 0, .slice none 0 0, .slice none 0 0, .slice none 0 0] 89)) (.pointer (some ⟨w.heap.size, 0, none⟩)) :=
  ⟨_, rfl, h, by simp, fun j => frz_new w _ _ j, by simp, by simp, by simp, by simp⟩
/-- The block behind the store. -/
def MQ (R : Option Bx) (W w : World) (v : Value) : Prop := ∃ q a0 n0 p0 a1 n1 p1 a2 n2 p2 a3 n3 p3, v = .pointer (some ⟨q, 0, none⟩) ∧ W.heap.size ≤ q ∧ q < w.heap.size ∧ w.cell? ⟨q, 0, none⟩ = some (.slice a0 n0 p0) ∧ w.cell? ⟨q, 1, none⟩ = some (.slice a1 n1 p1) ∧ w.cell? ⟨q, 2, none⟩ = some (.slice a2 n2 p2) ∧ w.cell? ⟨q, 3, none⟩ = some (.slice a3 n3 p3) ∧ (∀ c, R = some c → All2 (Sps 0 w) [.slice a0 n0 p0, .slice a1 n1 p1, .slice a2 n2 p2, .slice a3 n3 p3] c) ∧ Below W.heap.size W w
theorem mergeSides_r {lo lo' : Nat} {a b : Bx} {v0 v1 v2 v3 u0 u1 u2 u3 : Value} {w : World} {R : Option Bx} (h : mergeB a b = R) (ht : Tab w) (hs : All2 (Sps lo w) [v0, v1, v2, v3] a) (hu : All2 (Sps lo' w) [u0, u1, u2, u3] b) (ha : bvalid a = true) (hb : bvalid b = true) :
    Calls Tryd.prog 56 #[.agg #[v0, v1, v2, v3], .agg #[u0, u1, u2, u3]] w fun e w' => ∃ a0 n0 p0 a1 n1 p1 a2 n2 p2 a3 n3 p3, e = .returned (.tuple #[.agg #[.slice a0 n0 p0, .slice a1 n1 p1, .slice a2 n2 p2, .slice a3 n3 p3], .bool R.isSome]) ∧ (∀ c, R = some c → All2 (Sps 0 w') [.slice a0 n0 p0, .slice a1 n1 p1, .slice a2 n2 p2, .slice a3 n3 p3] c) ∧ Below w.heap.size w w' := by
  subst h
  exact mergeSides_any a b v0 v1 v2 v3 u0 u1 u2 u3 w ht hs hu ha hb
/-- Which set differs: none so far, or one. -/
def DfI (a b : Bx) (k : Nat) (d : Value) : Prop := (bdiff a b k = [] ∧ d = .int .i64 (-1)) ∨ ∃ f : Nat, f < 4 ∧ bdiff a b k = [f] ∧ d = .int .i64 (f : Int)
end Go.Proofs.YtajcogpfmpehkaaDoor
