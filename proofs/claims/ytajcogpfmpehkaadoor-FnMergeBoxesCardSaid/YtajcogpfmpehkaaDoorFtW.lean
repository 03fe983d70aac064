/- Trimmed, swapped lists: plain laws and both walks of TrimTail and SwapFlats. -/
import Derived.Test.YtajcogpfmpehkaaDoorFnX
import Derived.Test.YtajcogpfmpehkaaDoorCuW
import Derived.Test.YtajcogpfmpehkaaDoorBsA
namespace Go.Proofs.YtajcogpfmpehkaaDoor
open Go.RowKit
/-- How many rules are left when those at the end with the word r are trimmed. -/
def tcut (fs : List Ft) (r : Bool) : Nat → Nat
  | 0 => 0
  | n + 1 => match fs[n]? with
    | some f => if f.acc = r then tcut fs r n else n + 1
    | none => n + 1
def ttrim (fs : List Ft) (r : Bool) : List Ft := if fvalid fs then fs.take (tcut fs r fs.length) else []
theorem SlFr.take {α : Type} {lo sz : Nat} {enc : α → List Value} {w : World} {a : Option Addr} {n cap k : Nat} {xs : List α} (h : SlFr lo sz enc w (.slice a n cap) xs) (hk : k ≤ n) : SlFr lo sz enc w (.slice a k cap) (xs.take k) := by
  obtain ⟨a', cap', he, h1, h2, hx⟩ := h
  obtain ⟨rfl, rfl, rfl⟩ := Value.slice.inj he
  refine ⟨a, cap, by rw [List.length_take, Nat.min_eq_left hk], by rw [List.length_take]; omega, h2, fun j x hj => hx j x (get_take hj).2⟩
theorem Fts.take {lo : Nat} {w : World} {a : Option Addr} {n cap k : Nat} {fs : List Ft} (h : Fts lo w (.slice a n cap) fs) (hk : k ≤ n) : Fts lo w (.slice a k cap) (fs.take k) :=
  let ⟨rs, h1, h2⟩ := h
  ⟨rs.take k, h1.take hk, h2.take k⟩
theorem Ifs.take {lo : Nat} {w : World} {a : Option Addr} {n cap k : Nat} {fs : List Ft} (h : Ifs lo w (.slice a n cap) fs) (hk : k ≤ n) : Ifs lo w (.slice a k cap) (fs.take k) :=
  let ⟨rs, h1, h2⟩ := h
  ⟨rs.take k, h1.take hk, h2.take k⟩
/-- Two neighbours exchanged. -/
def swapAt {α : Type} (l : List α) (k : Nat) : List α := match l[k]?, l[k + 1]? with
  | some x, some y => (l.set k y).set (k + 1) x
  | _, _ => l
/-- What SwapFlats returns. -/
def swfl (fs : List Ft) (n : Int) : List Ft := if fvalid fs then (if cansw fs n then swapAt fs n.toNat else fs) else []
end Go.Proofs.YtajcogpfmpehkaaDoor
