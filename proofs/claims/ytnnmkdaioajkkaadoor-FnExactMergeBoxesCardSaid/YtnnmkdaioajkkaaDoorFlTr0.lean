/- One cell of an element of the call's own slice stored. -/
import Derived.Test.YtnnmkdaioajkkaaDoorSetAll
namespace Go.Proofs.YtnnmkdaioajkkaaDoor
open Go.RowKit
theorem set_flatMap {α : Type} {sz : Nat} {enc : α → List Value} (henc : ∀ x, (enc x).length = sz) : ∀ (ys : List α) (k : Nat) (y y' : α) (j : Nat) (c : Value), ys[k]? = some y → j < sz → enc y' = (enc y).set j c → (ys.flatMap enc).set (k * sz + j) c = (ys.set k y').flatMap enc
  | [], k, y, y', j, c, h, _, _ => by simp at h
  | x :: ys, 0, y, y', j, c, h, hj, he => by
    simp at h
    subst h
    simp only [List.flatMap_cons, Nat.zero_mul, Nat.zero_add, List.set_cons_zero]
    rw [List.set_append_left _ _ (by rw [henc]; exact hj), he]
  | x :: ys, k + 1, y, y', j, c, h, hj, he => by
    simp only [List.flatMap_cons, List.set_cons_succ]
    rw [List.set_append_right _ _ (by rw [henc, Nat.add_mul]; omega), henc, show (k + 1) * sz + j - sz = k * sz + j from by rw [Nat.add_mul]; omega,
      set_flatMap henc ys k y y' j c (by simpa using h) hj he]
theorem OwnSl.storeAt {α : Type} {base e sz : Nat} {enc : α → List Value} (henc : ∀ x, (enc x).length = sz) {w : World} {g n cap : Nat} {ys : List α} (hn : n = ys.length) (h : OwnSl base e sz enc w (.slice (some ⟨g, 0, none⟩) n cap) ys) {k : Nat} {y y' : α} (hk : ys[k]? = some y) {j : Nat} {c : Value} (hj : j < sz) (he : enc y' = (enc y).set j c) :
    OwnSl base e sz enc (w.setCell ⟨g, k * sz + j, none⟩ c) (.slice (some ⟨g, 0, none⟩) n cap) (ys.set k y') ∧ w.grownBy (w.setCell ⟨g, k * sz + j, none⟩ c) (some g) := by
  subst hn
  obtain ⟨h1, h2⟩ := World.ownsRow.stored h (k * sz + j) c
  refine ⟨?_, h2⟩
  unfold OwnSl
  rw [List.length_set, ← set_flatMap henc ys k y y' j c hk hj he]
  exact h1
end Go.Proofs.YtnnmkdaioajkkaaDoor
