/- Trimmed and swapped lists: plain laws. -/
import Derived.Test.YtkcnbkkgpampaaaDoorFnM
import Derived.Test.YtkcnbkkgpampaaaDoorFsP
namespace Go.Proofs.YtkcnbkkgpampaaaDoor
open Go.RowKit
/-- How many rules are left when those at the end with the word r are trimmed. -/
def tcut (fs : List Ft) (r : Bool) : Nat → Nat
  | 0 => 0
  | n + 1 => match fs[n]? with
    | some f => if f.acc = r then tcut fs r n else n + 1
    | none => n + 1
def ttrim (fs : List Ft) (r : Bool) : List Ft := if fvalid fs then fs.take (tcut fs r fs.length) else []
theorem tcut_le (fs : List Ft) (r : Bool) : ∀ n, tcut fs r n ≤ n
  | 0 => Nat.le_refl _
  | n + 1 => by
    have := tcut_le fs r n
    unfold tcut
    split
    · split
      · omega
      · exact Nat.le_refl _
    · exact Nat.le_refl _
theorem tcut_yes {fs : List Ft} {r : Bool} {n : Nat} {f : Ft} (hx : fs[n]? = some f) (h : f.acc = r) : tcut fs r (n + 1) = tcut fs r n := by
  conv => lhs; unfold tcut
  rw [hx]
  simp only
  rw [if_pos h]
theorem tcut_no {fs : List Ft} {r : Bool} {n : Nat} {f : Ft} (hx : fs[n]? = some f) (h : ¬ f.acc = r) : tcut fs r (n + 1) = n + 1 := by
  conv => lhs; unfold tcut
  rw [hx]
  simp only
  rw [if_neg h]
theorem ttrim_valid (fs : List Ft) (r : Bool) : fvalid (ttrim fs r) = true := by
  unfold ttrim
  split
  · rename_i h
    exact fvalid_sub h (by rw [List.length_take]; omega) (fun g hg => List.mem_of_mem_take hg)
  · rfl
theorem SlFr.take {α : Type} {lo sz : Nat} {enc : α → List Value} {w : World} {a : Option Addr} {n cap k : Nat} {xs : List α} (h : SlFr lo sz enc w (.slice a n cap) xs) (hk : k ≤ n) : SlFr lo sz enc w (.slice a k cap) (xs.take k) := by
  obtain ⟨a', cap', he, h1, h2, hx⟩ := h
  obtain ⟨rfl, rfl, rfl⟩ := Value.slice.inj he
  refine ⟨a, cap, by rw [List.length_take, Nat.min_eq_left hk], by rw [List.length_take]; omega, h2, fun j x hj => hx j x (get_take hj).2⟩
theorem Fts.take {lo : Nat} {w : World} {a : Option Addr} {n cap k : Nat} {fs : List Ft} (h : Fts lo w (.slice a n cap) fs) (hk : k ≤ n) : Fts lo w (.slice a k cap) (fs.take k) :=
  let ⟨rs, h1, h2⟩ := h
  ⟨rs.take k, h1.take hk, h2.take k⟩
theorem Ifs.take {lo : Nat} {w : World} {a : Option Addr} {n cap k : Nat} {fs : List Ft} (h : Ifs lo w (.slice a n cap) fs) (hk : k ≤ n) : Ifs lo w (.slice a k cap) (fs.take k) :=
  let ⟨rs, h1, h2⟩ := h
  ⟨rs.take k, h1.take hk, h2.take k⟩
/-- Two neighbours exchanged. -/
def swapAt {α : Type} (l : List α) (k : Nat) : List α := match l[k]?, l[k + 1]? with
  | some x, some y => (l.set k y).set (k + 1) x
  | _, _ => l
theorem swapAt_of {α : Type} {l : List α} {k : Nat} {x y : α} (hx : l[k]? = some x) (hy : l[k + 1]? = some y) : swapAt l k = (l.set k y).set (k + 1) x := by
  unfold swapAt
  rw [hx, hy]
theorem swapAt_len {α : Type} (l : List α) (k : Nat) : (swapAt l k).length = l.length := by
  unfold swapAt
  split
  · simp
  · rfl
theorem swapAt_mem {α : Type} {l : List α} {k : Nat} {z : α} (h : z ∈ swapAt l k) : z ∈ l := by
  unfold swapAt at h
  split at h
  · rename_i x y hx hy
    rcases List.mem_or_eq_of_mem_set h with h | h
    · rcases List.mem_or_eq_of_mem_set h with h | h
      · exact h
      · rw [h]; exact List.mem_of_getElem? hy
    · rw [h]; exact List.mem_of_getElem? hx
  · exact h
theorem All2.swap {α β : Type} {R : α → β → Prop} {la : List α} {lb : List β} (h : All2 R la lb) (k : Nat) : All2 R (swapAt la k) (swapAt lb k) := by
  unfold swapAt
  have hl := h.1
  cases hx : la[k]? with
  | none =>
    have : lb[k]? = none := by rw [List.getElem?_eq_none_iff] at hx ⊢; omega
    rw [this]
    exact h
  | some x =>
    obtain ⟨u, hu⟩ : ∃ u, lb[k]? = some u := ⟨_, List.getElem?_eq_getElem (by have := (List.getElem?_eq_some_iff.1 hx).1; omega)⟩
    cases hy : la[k + 1]? with
    | none =>
      have : lb[k + 1]? = none := by rw [List.getElem?_eq_none_iff] at hy ⊢; omega
      rw [hu, this]
      exact h
    | some y =>
      obtain ⟨v, hv⟩ : ∃ v, lb[k + 1]? = some v := ⟨_, List.getElem?_eq_getElem (by have := (List.getElem?_eq_some_iff.1 hy).1; omega)⟩
      rw [hu, hv]
      exact (h.set (h.2 _ _ _ hy hv) k).set (h.2 _ _ _ hx hu) (k + 1)
/-- What SwapFlats returns. -/
def swfl (fs : List Ft) (n : Int) : List Ft := if fvalid fs then (if cansw fs n then swapAt fs n.toNat else fs) else []
theorem swfl_valid (fs : List Ft) (n : Int) : fvalid (swfl fs n) = true := by
  unfold swfl
  split
  · rename_i h
    split
    · exact fvalid_sub h (by rw [swapAt_len]; exact Nat.le_refl _) (fun g hg => swapAt_mem hg)
    · exact h
  · rfl
end Go.Proofs.YtkcnbkkgpampaaaDoor
