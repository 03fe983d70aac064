/- Slices that a call itself makes: what they read as. -/
import Derived.Test.YtnnmkdaioajkkaaDoorBase
namespace Go.Proofs.YtnnmkdaioajkkaaDoor
open Go.RowKit
theorem flatMap_at {α : Type} {sz : Nat} {enc : α → List Value} (henc : ∀ x, (enc x).length = sz) : ∀ (ys : List α) (k : Nat) (y : α) (j : Nat), ys[k]? = some y → j < sz → (ys.flatMap enc)[k * sz + j]? = (enc y)[j]?
  | [], k, y, j, h, _ => by simp at h
  | x :: ys, 0, y, j, h, hj => by
    simp at h
    subst h
    simp only [List.flatMap_cons, Nat.zero_mul, Nat.zero_add]
    rw [List.getElem?_append_left (by rw [henc]; exact hj)]
  | x :: ys, k + 1, y, j, h, hj => by
    simp only [List.flatMap_cons]
    rw [List.getElem?_append_right (by rw [henc, Nat.add_mul]; omega), henc, show (k + 1) * sz + j - sz = k * sz + j from by rw [Nat.add_mul]; omega]
    exact flatMap_at henc ys k y j (by simpa using h) hj
theorem length_flatMap {α : Type} {sz : Nat} {enc : α → List Value} (henc : ∀ x, (enc x).length = sz) (ys : List α) : (ys.flatMap enc).length = ys.length * sz := by
  induction ys with
  | nil => simp
  | cons x ys ih => simp [henc, ih, Nat.add_mul]; omega
/-- The call's own slice v holds the elements ys (of type e, sz cells each), in a block from base on. -/
def OwnSl {α : Type} (base : Nat) (e : TypeId) (sz : Nat) (enc : α → List Value) (w : World) (v : Value) (ys : List α) : Prop := w.ownsRow base e sz v ys.length (ys.flatMap enc)
theorem OwnSl.at {α : Type} {base e sz : Nat} {enc : α → List Value} (henc : ∀ x, (enc x).length = sz) {w : World} {v : Value} {ys : List α} (h : OwnSl base e sz enc w v ys) : SlAt sz enc w v ys := by
  obtain ⟨_, h | ⟨g, cap, cur, rfl, hg, hh, hn, hm, hs, ht⟩⟩ := h
  · obtain ⟨rfl, h0⟩ := h
    refine ⟨none, 0, by rw [h0], by omega, by simp, fun k x hk => ?_⟩
    have := (List.getElem?_eq_some_iff.1 hk).1
    omega
  · refine ⟨some ⟨g, 0, none⟩, cap, rfl, hn, hm, fun k x hk => ⟨g, 0, rfl, (Array.getElem?_eq_some_iff.1 hh).1, fun j c hj => ?_⟩⟩
    have hjs : j < sz := by have := (List.getElem?_eq_some_iff.1 hj).1; rwa [henc] at this
    have hk' := (List.getElem?_eq_some_iff.1 hk).1
    have hlt : k * sz + j < ys.length * sz := by
      have : (k + 1) * sz ≤ ys.length * sz := Nat.mul_le_mul_right _ (by omega)
      rw [Nat.add_mul] at this; omega
    have h1 : (cur.toList.take (ys.length * sz))[k * sz + j]? = some c := by rw [ht, flatMap_at henc ys k x j hk hjs, hj]
    rw [List.getElem?_take_of_lt hlt] at h1
    simp [World.cell?, hh, ← h1]
theorem OwnSl.kept {α : Type} {base e sz : Nat} {enc : α → List Value} {w w' : World} {v : Value} {ys : List α} (h : OwnSl base e sz enc w v ys) (hb : Below w.heap.size w w') : OwnSl base e sz enc w' v ys := by
  refine ⟨h.1, ?_⟩
  obtain ⟨_, h | ⟨g, cap, cur, rfl, hg, hh, r⟩⟩ := h
  · exact Or.inl h
  · exact Or.inr ⟨g, cap, cur, rfl, hg, (hb.block g (Array.getElem?_eq_some_iff.1 hh).1).trans hh, r⟩
theorem OwnSl.mono {α : Type} {base base' e sz : Nat} {enc : α → List Value} {w : World} {v : Value} {ys : List α} (h : OwnSl base e sz enc w v ys) (hb : base' ≤ base) : OwnSl base' e sz enc w v ys := by
  refine ⟨h.1, ?_⟩
  obtain ⟨_, h | ⟨g, cap, cur, rfl, hg, r⟩⟩ := h
  · exact Or.inl h
  · exact Or.inr ⟨g, cap, cur, rfl, Nat.le_trans hb hg, r⟩
theorem OwnSl.nil {α : Type} (base e sz : Nat) (enc : α → List Value) (w : World) : OwnSl base e sz enc w (.slice none 0 0) ([] : List α) := World.ownsRow_nil w base e sz
theorem cellsNew (w : World) (cs : List Value) (e : TypeId) : ∀ (j : Nat) u, cs[j]? = some u → (w.alloc (.cells cs.toArray e)).cell? ((⟨w.heap.size, 0, none⟩ : Addr).add j) = some u := by
  intro j u h
  simp [Addr.add_lit, h]
theorem OwnSl.pushed {α : Type} {base e sz : Nat} {enc : α → List Value} {w : World} {v : Value} {ys : List α} {y : α} {n : Nat} (hn : n = ys.length) (h : w.ownsRow base e sz v (n + 1) (ys.flatMap enc ++ enc y)) : OwnSl base e sz enc w v (ys ++ [y]) := by
  subst hn
  unfold OwnSl
  simpa using! h
/-- What an append to the call's own slice leaves of the worlds before. -/
theorem belGrown {base : Nat} {w w0 w' : World} {v : Value} {e sz n : Nat} {xs : List Value} (hb : Below base w w0) (hown : w0.ownsRow base e sz v n xs) (hg : w0.grownBy w' v.ownBlock) (hB : base ≤ w0.heap.size) : Below base w w' :=
  hb.grown hg hB (fun k hk => (hown.lt k hk).1)
end Go.Proofs.YtnnmkdaioajkkaaDoor
