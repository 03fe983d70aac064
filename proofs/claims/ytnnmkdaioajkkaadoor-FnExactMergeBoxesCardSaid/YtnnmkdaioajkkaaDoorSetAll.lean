/- Stores of whole elements into a slice of the call's own. -/
import Derived.Test.YtnnmkdaioajkkaaDoorOwn
namespace Go.Proofs.YtnnmkdaioajkkaaDoor
open Go.RowKit
def setAll (L : List Value) : Nat → List Value → List Value
  | _, [] => L
  | o, c :: cs => setAll (L.set o c) (o + 1) cs
theorem setAll_append_right (A L : List Value) : ∀ (cs : List Value) (o : Nat), setAll (A ++ L) (A.length + o) cs = A ++ setAll L o cs
  | cs, o => by
    induction cs generalizing L o with
    | nil => rfl
    | cons c cs ih =>
      simp only [setAll]
      rw [List.set_append_right _ _ (by omega), show A.length + o - A.length = o from by omega, Nat.add_assoc, ih]
theorem setAll_cons (x : Value) (L cs : List Value) (o : Nat) : setAll (x :: L) (o + 1) cs = x :: setAll L o cs := by
  have := setAll_append_right [x] L cs o
  simpa [Nat.add_comm] using this
theorem setAll_head (A L : List Value) : ∀ (cs : List Value), A.length = cs.length → setAll (A ++ L) 0 cs = cs ++ L
  | [], h => by
    have : A = [] := List.eq_nil_of_length_eq_zero h
    subst this; rfl
  | c :: cs, h => by
    cases A with
    | nil => simp at h
    | cons a A =>
      simp only [setAll, List.cons_append, List.set_cons_zero]
      rw [setAll_cons, setAll_head A L cs (by simpa using h)]
theorem setAll_flatMap {α : Type} {sz : Nat} {enc : α → List Value} (henc : ∀ x, (enc x).length = sz) : ∀ (ys : List α) (k : Nat) (y : α), k < ys.length → setAll (ys.flatMap enc) (k * sz) (enc y) = (ys.set k y).flatMap enc
  | [], k, y, h => by simp at h
  | x :: ys, 0, y, _ => by
    simp only [List.flatMap_cons, Nat.zero_mul, List.set_cons_zero]
    exact setAll_head (enc x) (ys.flatMap enc) (enc y) (by rw [henc, henc])
  | x :: ys, k + 1, y, h => by
    simp only [List.flatMap_cons, List.set_cons_succ]
    rw [show (k + 1) * sz = (enc x).length + k * sz from by rw [henc, Nat.add_mul]; omega, setAll_append_right, setAll_flatMap henc ys k y (by simpa using h)]
/-- The world behind the stores of cs from place o of block g on. -/
def wSet (w : World) (g : Nat) : Nat → List Value → World
  | _, [] => w
  | o, c :: cs => wSet (w.setCell ⟨g, o, none⟩ c) g (o + 1) cs
theorem owns_wSet {base e size n cap g : Nat} : ∀ (cs : List Value) (o : Nat) (w : World) (xs : List Value), w.ownsRow base e size (.slice (some ⟨g, 0, none⟩) n cap) n xs →
    (wSet w g o cs).ownsRow base e size (.slice (some ⟨g, 0, none⟩) n cap) n (setAll xs o cs) ∧ w.grownBy (wSet w g o cs) (some g)
  | [], _, w, xs, h => ⟨h, World.grownBy.refl _ _⟩
  | c :: cs, o, w, xs, h => by
    obtain ⟨h1, h2⟩ := h.stored o c
    obtain ⟨h3, h4⟩ := owns_wSet cs (o + 1) _ _ h1
    exact ⟨h3, ⟨h4.os.trans h2.os, h4.tape.trans h2.tape, h4.output.trans h2.output, Nat.le_trans h2.size h4.size, fun k hk hne => (h4.block k (Nat.lt_of_lt_of_le hk h2.size) hne).trans (h2.block k hk hne)⟩⟩
theorem OwnSl.store {α : Type} {base e sz : Nat} {enc : α → List Value} (henc : ∀ x, (enc x).length = sz) {w : World} {g n cap : Nat} {ys : List α} (hn : n = ys.length) (h : OwnSl base e sz enc w (.slice (some ⟨g, 0, none⟩) n cap) ys) {k : Nat} (hk : k < ys.length) (y : α) :
    OwnSl base e sz enc (wSet w g (k * sz) (enc y)) (.slice (some ⟨g, 0, none⟩) n cap) (ys.set k y) ∧ w.grownBy (wSet w g (k * sz) (enc y)) (some g) := by
  subst hn
  obtain ⟨h1, h2⟩ := owns_wSet (enc y) (k * sz) w _ h
  refine ⟨?_, h2⟩
  unfold OwnSl
  rw [List.length_set, ← setAll_flatMap henc ys k y hk]
  exact h1
theorem isSome_arr (c : Array Value) (j : Nat) : c[j]?.isSome = decide (j < c.size) := by by_cases h : j < c.size <;> simp [h]
theorem isSome_set (w : World) (a : Addr) (v : Value) (b : Addr) : ((w.setCell a v).cell? b).isSome = (w.cell? b).isSome := by
  unfold World.cell? World.setCell
  simp only [Array.getElem?_modify]
  by_cases h : a.block = b.block
  · rw [if_pos h]
    cases hb : w.heap[b.block]? with
    | none => simp
    | some o =>
      cases o with
      | cells c e fr =>
        by_cases h1 : a.spot.isSome = true <;> by_cases h2 : b.spot.isSome = true <;> simp [h1, h2, isSome_arr]
      | _ => simp
  · rw [if_neg h]
theorem wSet_cell {g : Nat} : ∀ (cs : List Value) (o : Nat) (w : World), (∀ j, j < cs.length → (w.cell? ⟨g, o + j, none⟩).isSome = true) → ∀ (j : Nat) v, cs[j]? = some v → (wSet w g o cs).cell? ⟨g, o + j, none⟩ = some v := by
  have keep : ∀ (cs : List Value) (o : Nat) (w : World) (q : Nat), q < o → (wSet w g o cs).cell? ⟨g, q, none⟩ = w.cell? ⟨g, q, none⟩ := by
    intro cs
    induction cs with
    | nil => intro o w q _; rfl
    | cons c cs ih =>
      intro o w q hq
      simp only [wSet]
      rw [ih (o + 1) _ q (by omega), World.cell?_setCell_other _ _ _ _ (by intro e; simp at e; try omega)]
  intro cs
  induction cs with
  | nil => intro o w _ j v h; simp at h
  | cons c cs ih =>
    intro o w hs j v h
    cases j with
    | zero =>
      simp at h
      subst h
      simp only [wSet, Nat.add_zero]
      rw [keep cs (o + 1) _ o (by omega)]
      exact World.cell?_setCell_same' _ _ _ (by simpa using hs 0 (by simp))
    | succ j =>
      simp only [wSet]
      have := ih (o + 1) (w.setCell ⟨g, o, none⟩ c) (fun i hi => by rw [isSome_set, show o + 1 + i = o + (i + 1) from by omega]; exact hs (i + 1) (by simpa using hi)) j v (by simpa using h)
      rw [show o + 1 + j = o + (j + 1) from by omega] at this
      exact this
/-- A result that lies in a cell of the call's own. -/
theorem run_resCell {P : Program} {fn : Func} {p : Tmp} {ty : TypeId} {w : World} {tmps : Array Value} {b o : Nat} {cs : List Value} (h : fn.results = #[.cell p ty]) (hp : tmps.getD p undef = .pointer (some ⟨b, o, none⟩))
    (ha : ∀ w, (isAgg ty).run P w = .ok true w) (hz : ∀ w, (sizeOf ty).run P w = .ok cs.length w) (hc : ∀ (j : Nat) v, cs[j]? = some v → w.cell? ⟨b, o + j, none⟩ = some v) : (results fn tmps).run P w = .ok (.agg cs.toArray) w := by
  have hl := run_loadCells_list (P := P) (w := w) ⟨b, o, none⟩ cs (fun j v hj => by rw [Addr.add_lit]; exact hc j v hj)
  have hp' : tmps[p]?.getD undef = .pointer (some ⟨b, o, none⟩) := by rw [← hp]; simp [Array.getD]; split <;> simp_all
  simp only [results, h]
  simp [Sem.run_bind, Result.andThen, hp', loadVar, ha, hz, asAddr, hl]
/-- What a slice of the call's own is. -/
theorem OwnSl.form {α : Type} {base e sz : Nat} {enc : α → List Value} {w : World} {v : Value} {ys : List α} (h : OwnSl base e sz enc w v ys) :
    (v = .slice none 0 0 ∧ ys = []) ∨ ∃ g cap, v = .slice (some ⟨g, 0, none⟩) ys.length cap ∧ base ≤ g ∧ g < w.heap.size ∧ ys.length ≤ cap ∧ cap ≤ maxLen ∧ (∀ o, w.frozen? ⟨g, o, none⟩ = false) := by
  obtain ⟨_, h0 | ⟨g, cap, cur, rfl, hg, hh, hn, hm, r⟩⟩ := id h
  · exact Or.inl ⟨h0.1, List.eq_nil_of_length_eq_zero h0.2⟩
  · exact Or.inr ⟨g, cap, rfl, hg, (Array.getElem?_eq_some_iff.1 hh).1, hn, hm, fun o => World.ownsRow.frozenAt h o⟩
theorem OwnSl.frz {α : Type} {base e sz : Nat} {enc : α → List Value} {w : World} {g n cap : Nat} {ys : List α} (h : OwnSl base e sz enc w (.slice (some ⟨g, 0, none⟩) n cap) ys) : ∀ j, w.frozen? ⟨g, j, none⟩ = false := by
  rcases h.form with ⟨h0, _⟩ | ⟨g', cap', h0, _, _, _, _, hf⟩
  · cases h0
  · obtain ⟨h1, _, _⟩ := Value.slice.inj h0
    obtain ⟨rfl, _, _⟩ := Addr.mk.inj (Option.some.inj h1)
    exact hf
theorem OwnSl.cell {α : Type} {base e sz : Nat} {enc : α → List Value} (henc : ∀ x, (enc x).length = sz) {w : World} {g n cap : Nat} {ys : List α} (h : OwnSl base e sz enc w (.slice (some ⟨g, 0, none⟩) n cap) ys) {k : Nat} {y : α} (hk : ys[k]? = some y) :
    ∀ (j : Nat) c, (enc y)[j]? = some c → w.cell? ⟨g, k * sz + j, none⟩ = some c := by
  obtain ⟨a, cp, he, _, _, hx⟩ := OwnSl.at henc h
  obtain ⟨rfl, _, _⟩ := Value.slice.inj he
  obtain ⟨b, o, ha, hb, hc⟩ := hx k y hk
  obtain ⟨rfl, rfl, _⟩ := Addr.mk.inj (Option.some.inj ha)
  intro j c hj
  simpa using hc j c hj
/-- It stays what it is where another block is written. -/
theorem OwnSl.apart {α : Type} {base e sz : Nat} {enc : α → List Value} {w w' : World} {v u : Value} {ys : List α} (h : OwnSl base e sz enc w v ys) (hg : w.grownBy w' u.ownBlock) (hne : ∀ k, v.ownBlock = some k → u.ownBlock ≠ some k) : OwnSl base e sz enc w' v ys := by
  refine World.ownsRow.kept h hg ?_
  cases hv : v.ownBlock with
  | none => exact Or.inl rfl
  | some k => exact Or.inr (fun e => hne k hv e.symm)
theorem madeFlat {α : Type} {enc : α → List Value} {sz : Nat} (henc : ∀ x, (enc x).length = sz) (h0 : 0 < sz) (z : Value) (y : α) (h : z.cells.toList = enc y) (n : Nat) : (madeCells z.cells (n * sz)).toList = (List.replicate n y).flatMap enc := by
  have hs : z.cells.size = sz := by rw [← Array.length_toList, h, henc]
  apply List.ext_getElem?
  intro i
  by_cases hi : i < n * sz
  · have hd := Nat.div_add_mod i sz
    have hk : i / sz < n := Nat.div_lt_of_lt_mul (by rw [Nat.mul_comm]; exact hi)
    have hj : i % sz < sz := Nat.mod_lt _ h0
    rw [show i = i / sz * sz + i % sz from by rw [Nat.mul_comm]; omega]
    rw [flatMap_at henc _ (i / sz) y (i % sz) (by simp [hk]) hj, ← h]
    simp only [madeCells, Array.getElem?_toList, Array.getElem?_map, hs]
    rw [show i / sz * sz + i % sz = i from by rw [Nat.mul_comm]; omega, Array.getElem?_range, if_pos hi]
    simp [hs, hj]
  · rw [List.getElem?_eq_none (by simp [size_madeCells]; omega), List.getElem?_eq_none (by rw [length_flatMap henc]; simp; omega)]
end Go.Proofs.YtnnmkdaioajkkaaDoor
