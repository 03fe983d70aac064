/- Common packets of two boxes, and when two rules can be exchanged: plain definitions and laws. -/
import Derived.Test.YtnnmkdaioajkkaaDoorFmK
namespace Go.Proofs.YtnnmkdaioajkkaaDoor
open Go.RowKit
def bempty (b : Bx) : Bool := b.any List.isEmpty
def bmeet (a b : Bx) : Bx := List.zipWith smeet a b
def fcommon (a b : List Sp) : Int × Bool := match smeet a b with
  | [] => (0, false)
  | s :: _ => (s.lo, true)
theorem smeet_none {a b : List Sp} (h : ∀ (p q : Nat) u v, a[p]? = some u → b[q]? = some v → meet1 u v = none) : smeet a b = [] := by
  unfold smeet
  rw [List.flatMap_eq_nil_iff]
  intro x hx
  rw [List.filterMap_eq_nil_iff]
  intro y hy
  obtain ⟨p, hp⟩ := List.getElem?_of_mem hx
  obtain ⟨q, hq⟩ := List.getElem?_of_mem hy
  exact h p q x y hp hq
theorem split_at {α : Type} {l : List α} {i : Nat} {x : α} (hx : l[i]? = some x) : l = l.take i ++ x :: l.drop (i + 1) := by
  have hi := (List.getElem?_eq_some_iff.1 hx)
  obtain ⟨h1, h2⟩ := hi
  rw [← h2, ← List.drop_eq_getElem_cons h1, List.take_append_drop]
theorem get_take {α : Type} {l : List α} {i p : Nat} {x : α} (h : (l.take i)[p]? = some x) : p < i ∧ l[p]? = some x := by
  rw [List.getElem?_take] at h
  split at h
  · exact ⟨by assumption, h⟩
  · cases h
theorem smeet_first {a b : List Sp} {i j : Nat} {x y s : Sp} (hx : a[i]? = some x) (hy : b[j]? = some y) (hs : meet1 x y = some s)
    (h : ∀ (p q : Nat) u v, (p < i ∨ q < j) → a[p]? = some u → b[q]? = some v → meet1 u v = none) : ∃ tl, smeet a b = s :: tl := by
  have h1 : smeet (a.take i) b = [] := smeet_none (fun p q u v hp hq => h p q u v (.inl (get_take hp).1) (get_take hp).2 hq)
  have h2 : (b.take j).filterMap (meet1 x) = [] := by
    rw [List.filterMap_eq_nil_iff]
    intro y' hy'
    obtain ⟨q, hq⟩ := List.getElem?_of_mem hy'
    exact h i q x y' (.inr (get_take hq).1) hx (get_take hq).2
  have h3 : b.filterMap (meet1 x) = s :: (b.drop (j + 1)).filterMap (meet1 x) := by
    conv => lhs; rw [split_at hy]
    rw [List.filterMap_append, h2, List.nil_append, List.filterMap_cons, hs]
  refine ⟨(b.drop (j + 1)).filterMap (meet1 x) ++ smeet (a.drop (i + 1)) b, ?_⟩
  conv => lhs; rw [split_at hx]
  unfold smeet at h1 ⊢
  rw [List.flatMap_append, h1, List.nil_append, List.flatMap_cons, h3, List.cons_append]
theorem sgood_get {h : Int} : ∀ {xs : List Sp} {m : Int} {i : Nat} {x : Sp}, sgood h m xs = true → xs[i]? = some x → m ≤ x.lo ∧ x.lo ≤ x.hi ∧ x.hi ≤ h
  | [], _, _, _, _, hx => by simp at hx
  | s :: xs, m, 0, x, hg, hx => by
    rw [sgood_cons] at hg
    simp at hx
    subst hx
    exact ⟨hg.1, hg.2.1, hg.2.2.1⟩
  | s :: xs, m, i + 1, x, hg, hx => by
    rw [sgood_cons] at hg
    have := sgood_get hg.2.2.2 (by simpa using hx)
    omega
theorem sgood_lt {h : Int} : ∀ {xs : List Sp} {m : Int} {i p : Nat} {x u : Sp}, sgood h m xs = true → xs[i]? = some x → xs[p]? = some u → i < p → x.hi + 2 ≤ u.lo
  | [], _, _, _, _, _, _, hx, _, _ => by simp at hx
  | s :: xs, m, _, 0, _, _, _, _, _, hlt => by omega
  | s :: xs, m, 0, p + 1, x, u, hg, hx, hu, _ => by
    rw [sgood_cons] at hg
    simp at hx
    subst hx
    exact (sgood_get hg.2.2.2 (by simpa using hu)).1
  | s :: xs, m, i + 1, p + 1, x, u, hg, hx, hu, hlt => by
    rw [sgood_cons] at hg
    exact sgood_lt hg.2.2.2 (by simpa using hx) (by simpa using hu) (by omega)
/-- No common numbers before the two places. -/
def FC (a b : List Sp) (i j : Nat) : Prop := ∀ (p q : Nat) u v, (p < i ∨ q < j) → a[p]? = some u → b[q]? = some v → meet1 u v = none
theorem meet1_no {u v : Sp} (h : u.hi < v.lo ∨ v.hi < u.lo) : meet1 u v = none := by
  unfold meet1
  rw [if_neg (by omega)]
theorem FC.left {a b : List Sp} {i j : Nat} {x y : Sp} {h m : Int} (hf : FC a b i j) (hb : sgood h m b = true) (hx : a[i]? = some x) (hy : b[j]? = some y) (hm : meet1 x y = none) (hlt : x.hi < y.hi) : FC a b (i + 1) j := by
  intro p q u v hpq hu hv
  by_cases h1 : p < i ∨ q < j
  · exact hf p q u v h1 hu hv
  · have hp : p = i := by omega
    subst hp
    rw [hx] at hu
    cases hu
    by_cases h2 : q = j
    · subst h2; rw [hy] at hv; cases hv; exact hm
    · exact meet1_no (.inl (by have := sgood_lt hb hy hv (by omega); omega))
theorem FC.right {a b : List Sp} {i j : Nat} {x y : Sp} {h m : Int} (hf : FC a b i j) (ha : sgood h m a = true) (hx : a[i]? = some x) (hy : b[j]? = some y) (hm : meet1 x y = none) (hlt : ¬ x.hi < y.hi) : FC a b i (j + 1) := by
  intro p q u v hpq hu hv
  by_cases h1 : p < i ∨ q < j
  · exact hf p q u v h1 hu hv
  · have hq : q = j := by omega
    subst hq
    rw [hy] at hv
    cases hv
    by_cases h2 : p = i
    · subst h2; rw [hx] at hu; cases hu; exact hm
    · exact meet1_no (.inr (by have := sgood_lt ha hx hu (by omega); omega))
theorem FC.none {a b : List Sp} {i j : Nat} (hf : FC a b i j) (h : a.length ≤ i ∨ b.length ≤ j) : fcommon a b = (0, false) := by
  unfold fcommon
  rw [smeet_none (fun p q u v hu hv => hf p q u v (by
    have h1 := (List.getElem?_eq_some_iff.1 hu).1
    have h2 := (List.getElem?_eq_some_iff.1 hv).1
    omega) hu hv)]
theorem FC.hit {a b : List Sp} {i j : Nat} {x y s : Sp} (hf : FC a b i j) (hx : a[i]? = some x) (hy : b[j]? = some y) (hs : meet1 x y = some s) : fcommon a b = (s.lo, true) := by
  unfold fcommon
  obtain ⟨tl, h⟩ := smeet_first hx hy hs hf
  rw [h]
theorem FC.zero (a b : List Sp) : FC a b 0 0 := fun p q u v h => by omega
theorem fcommon_emp {a b : List Sp} : (fcommon a b).2 = !(smeet a b).isEmpty := by
  unfold fcommon
  cases smeet a b <;> rfl
/-- All sets below k have common numbers. -/
def TC (a b : Bx) (k : Nat) : Prop := ∀ (i : Nat) x y, i < k → a[i]? = some x → b[i]? = some y → (smeet x y).isEmpty = false
theorem TC.step {a b : Bx} {k : Nat} {x y : List Sp} (h : TC a b k) (hx : a[k]? = some x) (hy : b[k]? = some y) (he : (fcommon x y).2 = true) : TC a b (k + 1) := by
  intro i u v hi hu hv
  by_cases e : i = k
  · subst e; rw [hx] at hu; rw [hy] at hv; cases hu; cases hv; rw [fcommon_emp] at he; simpa using he
  · exact h i u v (by omega) hu hv
theorem bmeet_at {a b : Bx} {i : Nat} {z : List Sp} (h : (bmeet a b)[i]? = some z) : ∃ x y, a[i]? = some x ∧ b[i]? = some y ∧ smeet x y = z := by
  unfold bmeet at h
  rw [List.getElem?_zipWith] at h
  split at h
  · rename_i x y hx hy; cases h; exact ⟨_, _, hx, hy, rfl⟩
  · cases h
theorem bmeet_get {a b : Bx} {i : Nat} {x y : List Sp} (hx : a[i]? = some x) (hy : b[i]? = some y) : (bmeet a b)[i]? = some (smeet x y) := by
  unfold bmeet
  rw [List.getElem?_zipWith, hx, hy]
theorem TC.no {a b : Bx} {k : Nat} {x y : List Sp} (hx : a[k]? = some x) (hy : b[k]? = some y) (he : (fcommon x y).2 = false) : bempty (bmeet a b) = true := by
  rw [fcommon_emp] at he
  unfold bempty
  rw [List.any_eq_true]
  exact ⟨_, List.mem_of_getElem? (bmeet_get hx hy), by simpa using he⟩
theorem TC.yes {a b : Bx} {k : Nat} (h : TC a b k) (hk : a.length ≤ k) : bempty (bmeet a b) = false := by
  unfold bempty
  rw [List.any_eq_false]
  intro z hz
  obtain ⟨i, hi⟩ := List.getElem?_of_mem hz
  obtain ⟨x, y, hx, hy, rfl⟩ := bmeet_at hi
  have := h i x y (by have := (List.getElem?_eq_some_iff.1 hx).1; omega) hx hy
  simpa using this
/-- Whether rules number n and the next one can be exchanged. -/
def tiedB (f g : Ft) : Bool := !decide (f.acc = g.acc) && !bempty (bmeet f.box g.box)
def tiedAt (fs : List Ft) (i j : Nat) : Bool := match fs[i]?, fs[j]? with
  | some f, some g => tiedB f g
  | _, _ => false
def cansw (fs : List Ft) (n : Int) : Bool := fvalid fs && inB n 0 ((fs.length : Int) - 2) && !tiedAt fs n.toNat (n.toNat + 1)
theorem tiedAt_of {fs : List Ft} {i j : Nat} {f g : Ft} (hf : fs[i]? = some f) (hg : fs[j]? = some g) : tiedAt fs i j = tiedB f g := by
  unfold tiedAt
  rw [hf, hg]
end Go.Proofs.YtnnmkdaioajkkaaDoor
