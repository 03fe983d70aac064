/- The graph of tied rules: plain definitions and laws. -/
import Derived.Test.YtnnmkdaioajkkaaDoorFtW
namespace Go.Proofs.YtnnmkdaioajkkaaDoor
open Go.RowKit
/-- Whether rules a and b are tied, as the program asks: the later one first. -/
def tieM (fs : List Ft) (a b : Nat) : Bool := if a = b then false else tiedAt fs (max a b) (min a b)
/-- What is known behind i rows and j columns. -/
def kn (i j r c : Nat) : Bool := decide ((r < i ∧ c < i) ∨ (r = i ∧ c < j) ∨ (c = i ∧ r < j))
def tieRow (fs : List Ft) (n i j r : Nat) : List Bool := (List.range n).map fun c => kn i j r c && tieM fs r c
def tieAll (fs : List Ft) (n i j : Nat) : List (List Bool) := (List.range n).map fun r => if r ≤ i then tieRow fs n i j r else []
theorem tieRow_len (fs : List Ft) (n i j r : Nat) : (tieRow fs n i j r).length = n := by simp [tieRow]
theorem tieAll_len (fs : List Ft) (n i j : Nat) : (tieAll fs n i j).length = n := by simp [tieAll]
theorem tieRow_get {fs : List Ft} {n i j r c : Nat} (hc : c < n) : (tieRow fs n i j r)[c]? = some (kn i j r c && tieM fs r c) := by simp [tieRow, hc]
theorem tieAll_get {fs : List Ft} {n i j r : Nat} (hr : r < n) (hi : r ≤ i) : (tieAll fs n i j)[r]? = some (tieRow fs n i j r) := by simp [tieAll, hr, hi]
theorem tieAll_nil {fs : List Ft} {n i j r : Nat} (hr : r < n) (hi : i < r) : (tieAll fs n i j)[r]? = some [] := by simp [tieAll, hr]; omega
theorem tieM_symm (fs : List Ft) (a b : Nat) : tieM fs a b = tieM fs b a := by
  unfold tieM
  by_cases h : a = b
  · subst h; rfl
  · rw [if_neg h, if_neg (fun e => h e.symm), Nat.max_comm, Nat.min_comm]
/-- The row i is new. -/
theorem tieAll_row {fs : List Ft} {n i : Nat} (_hi : i + 1 < n) : (tieAll fs n i (i + 0)).set (i + 1) (List.replicate n false) = (tieAll fs n i i).set (i + 1) (List.replicate n false) := rfl
theorem ext_get {α : Type} {a b : List α} (hl : a.length = b.length) (h : ∀ k, k < a.length → a[k]? = b[k]?) : a = b := by
  apply List.ext_getElem?
  intro k
  by_cases hk : k < a.length
  · exact h k hk
  · rw [List.getElem?_eq_none (by omega), List.getElem?_eq_none (by omega)]
theorem tieRow_next (fs : List Ft) (n i r : Nat) (hr : r ≤ i) : tieRow fs n i i r = tieRow fs n (i + 1) 0 r := by
  unfold tieRow
  apply List.map_congr_left
  intro c _
  by_cases e : r = i ∧ c = i
  · obtain ⟨rfl, rfl⟩ := e
    simp [tieM]
  · congr 1
    unfold kn
    congr 1
    apply propext
    omega
theorem tieRow_zero (fs : List Ft) (n i : Nat) : tieRow fs n i 0 i = List.replicate n false := by
  refine ext_get (by simp [tieRow]) (fun c hc => ?_)
  rw [tieRow_len] at hc
  rw [tieRow_get hc, List.getElem?_replicate, if_pos hc, show kn i 0 i c = false from by unfold kn; rw [decide_eq_false]; omega]
  rfl
/-- The next row is made. -/
theorem tieAll_next {fs : List Ft} {n i : Nat} (_hi : i + 1 < n) : (tieAll fs n i i).set (i + 1) (List.replicate n false) = tieAll fs n (i + 1) 0 := by
  refine ext_get (by simp [tieAll]) (fun r hr => ?_)
  rw [List.length_set, tieAll_len] at hr
  rw [List.getElem?_set]
  by_cases e : i + 1 = r
  · subst e
    rw [if_pos rfl, tieAll_len, if_pos hr, tieAll_get hr (Nat.le_refl _), tieRow_zero]
  · rw [if_neg e]
    by_cases h : r ≤ i
    · rw [tieAll_get hr h, tieAll_get hr (by omega), tieRow_next fs n i r h]
    · rw [tieAll_nil hr (by omega), tieAll_nil hr (by omega)]
theorem tieRow_set1 {fs : List Ft} {n i j : Nat} (hj : j < i) (_hi : i < n) : (tieRow fs n i j i).set j (tieM fs i j) = tieRow fs n i (j + 1) i := by
  refine ext_get (by simp [tieRow]) (fun c hc => ?_)
  rw [List.length_set, tieRow_len] at hc
  rw [List.getElem?_set]
  by_cases e : j = c
  · subst e
    rw [if_pos rfl, tieRow_len, if_pos hc, tieRow_get hc, show kn i (j + 1) i j = true from by unfold kn; rw [decide_eq_true]; omega]
    rfl
  · rw [if_neg e, tieRow_get hc, tieRow_get hc]
    congr 2
    unfold kn
    congr 1
    apply propext
    omega
theorem tieRow_set2 {fs : List Ft} {n i j : Nat} (hj : j < i) (_hi : i < n) : (tieRow fs n i j j).set i (tieM fs i j) = tieRow fs n i (j + 1) j := by
  refine ext_get (by simp [tieRow]) (fun c hc => ?_)
  rw [List.length_set, tieRow_len] at hc
  rw [List.getElem?_set]
  by_cases e : i = c
  · subst e
    rw [if_pos rfl, tieRow_len, if_pos hc, tieRow_get hc, show kn i (j + 1) j i = true from by unfold kn; rw [decide_eq_true]; omega, Bool.true_and, tieM_symm]
  · rw [if_neg e, tieRow_get hc, tieRow_get hc]
    congr 2
    unfold kn
    congr 1
    apply propext
    omega
theorem tieRow_other {fs : List Ft} {n i j r : Nat} (h1 : r ≠ i) (h2 : r ≠ j) : tieRow fs n i j r = tieRow fs n i (j + 1) r := by
  unfold tieRow
  apply List.map_congr_left
  intro c _
  congr 1
  unfold kn
  congr 1
  apply propext
  omega
/-- Both cells are stored. -/
theorem tieAll_step {fs : List Ft} {n i j : Nat} (hj : j < i) (hi : i < n) :
    ((tieAll fs n i j).set i ((tieRow fs n i j i).set j (tieM fs i j))).set j ((tieRow fs n i j j).set i (tieM fs i j)) = tieAll fs n i (j + 1) := by
  refine ext_get (by simp [tieAll]) (fun r hr => ?_)
  rw [List.length_set, List.length_set, tieAll_len] at hr
  rw [List.getElem?_set, List.getElem?_set, tieRow_set1 hj hi, tieRow_set2 hj hi, List.length_set, tieAll_len]
  by_cases e : j = r
  · subst e
    rw [if_pos rfl, if_pos hr, tieAll_get hr (by omega)]
  · rw [if_neg e]
    by_cases e2 : i = r
    · subst e2
      rw [if_pos rfl, if_pos hr, tieAll_get hr (Nat.le_refl _)]
    · rw [if_neg e2]
      by_cases h : r ≤ i
      · rw [tieAll_get hr h, tieAll_get hr h, tieRow_other (by omega) (by omega)]
      · rw [tieAll_nil hr (by omega), tieAll_nil hr (by omega)]
/-- The whole graph. -/
def ties (fs : List Ft) : List (List Bool) := (List.range fs.length).map fun r => (List.range fs.length).map fun c => tieM fs r c
theorem ties_get {fs : List Ft} {r : Nat} (hr : r < fs.length) : (ties fs)[r]? = some ((List.range fs.length).map fun c => tieM fs r c) := by simp [ties, hr]
theorem tieM_at {fs : List Ft} {r c : Nat} (hc : c < fs.length) : ((List.range fs.length).map fun c => tieM fs r c)[c]? = some (tieM fs r c) := by simp [hc]
theorem tieAll_done {fs : List Ft} {i : Nat} (h : fs.length = i + 1) : tieAll fs fs.length i i = ties fs := by
  unfold tieAll ties
  apply List.map_congr_left
  intro r hr
  rw [List.mem_range] at hr
  rw [if_pos (by omega)]
  unfold tieRow
  apply List.map_congr_left
  intro c hc
  rw [List.mem_range] at hc
  by_cases e : r = c
  · subst e; simp [tieM]
  · rw [show kn i i r c = true from by unfold kn; rw [decide_eq_true]; omega, Bool.true_and]
theorem meet1_comm (x y : Sp) : meet1 x y = meet1 y x := by
  unfold meet1
  rw [show max x.lo y.lo = max y.lo x.lo from by omega, show min x.hi y.hi = min y.hi x.hi from by omega]
theorem smeet_nil {a b : List Sp} (h : smeet a b = []) : smeet b a = [] := by
  unfold smeet at h
  rw [List.flatMap_eq_nil_iff] at h
  refine smeet_none (fun p q u v hu hv => ?_)
  have := h v (List.mem_of_getElem? hv)
  rw [List.filterMap_eq_nil_iff] at this
  rw [meet1_comm]
  exact this u (List.mem_of_getElem? hu)
theorem smeet_emp (a b : List Sp) : (smeet a b).isEmpty = (smeet b a).isEmpty := by
  by_cases h : smeet a b = []
  · rw [h, smeet_nil h]
  · have h2 : smeet b a ≠ [] := fun e => h (smeet_nil e)
    cases h3 : smeet a b with
    | nil => exact absurd h3 h
    | cons x xs =>
      cases h4 : smeet b a with
      | nil => exact absurd h4 h2
      | cons y ys => rfl
theorem bempty_comm : ∀ a b : Bx, bempty (bmeet a b) = bempty (bmeet b a)
  | [], [] => rfl
  | [], _ :: _ => rfl
  | _ :: _, [] => rfl
  | x :: a, y :: b => by
    have ih := bempty_comm a b
    unfold bempty bmeet at ih ⊢
    rw [List.zipWith_cons_cons, List.zipWith_cons_cons, List.any_cons, List.any_cons, ih, smeet_emp]
theorem tiedB_symm (f g : Ft) : tiedB f g = tiedB g f := by
  unfold tiedB
  rw [bempty_comm]
  congr 2
  by_cases h : f.acc = g.acc
  · rw [decide_eq_true h, decide_eq_true h.symm]
  · rw [decide_eq_false h, decide_eq_false (fun e => h e.symm)]
theorem tiedB_self (f : Ft) : tiedB f f = false := by simp [tiedB]
theorem tieM_of {fs : List Ft} {a b : Nat} {f g : Ft} (hf : fs[a]? = some f) (hg : fs[b]? = some g) : tieM fs a b = tiedB f g := by
  unfold tieM
  by_cases h : a = b
  · subst h
    rw [hf] at hg
    cases hg
    rw [if_pos rfl, tiedB_self]
  · rw [if_neg h]
    rcases Nat.lt_or_ge a b with hlt | hge
    · rw [Nat.max_eq_right (by omega), Nat.min_eq_left (by omega), tiedAt_of hg hf, tiedB_symm]
    · rw [Nat.max_eq_left hge, Nat.min_eq_right hge, tiedAt_of hf hg]
/-- Rules in another order, by their numbers. -/
def arr (fs : List Ft) (o : List Nat) : List Ft := o.filterMap fun i => fs[i]?
theorem arr_get {fs : List Ft} : ∀ {o : List Nat}, (∀ i ∈ o, i < fs.length) → ∀ {k i : Nat}, o[k]? = some i → (arr fs o)[k]? = fs[i]?
  | [], _, k, i, h => by simp at h
  | x :: o, hb, 0, i, h => by
    simp at h
    subst h
    have hx := hb x (by simp)
    unfold arr
    rw [List.filterMap_cons, List.getElem?_eq_getElem hx]
    rfl
  | x :: o, hb, k + 1, i, h => by
    have hx := hb x (by simp)
    have ih := arr_get (fs := fs) (o := o) (fun i hi => hb i (by simp [hi])) (k := k) (i := i) (by simpa using h)
    unfold arr at ih ⊢
    rw [List.filterMap_cons, List.getElem?_eq_getElem hx]
    simpa using ih
theorem arr_len {fs : List Ft} : ∀ {o : List Nat}, (∀ i ∈ o, i < fs.length) → (arr fs o).length = o.length
  | [], _ => rfl
  | x :: o, hb => by
    have hx := hb x (by simp)
    have ih := arr_len (fs := fs) (o := o) (fun i hi => hb i (by simp [hi]))
    unfold arr at ih ⊢
    rw [List.filterMap_cons, List.getElem?_eq_getElem hx]
    simp [ih]
theorem arr_mem {fs : List Ft} {o : List Nat} {f : Ft} (h : f ∈ arr fs o) : f ∈ fs := by
  unfold arr at h
  rw [List.mem_filterMap] at h
  obtain ⟨i, _, hi⟩ := h
  exact List.mem_of_getElem? hi
theorem arr_range (fs : List Ft) : arr fs (List.range fs.length) = fs := by
  have hb : ∀ i ∈ List.range fs.length, i < fs.length := fun i hi => List.mem_range.1 hi
  refine ext_get (by rw [arr_len hb, List.length_range]) (fun k hk => ?_)
  rw [arr_len hb, List.length_range] at hk
  rw [arr_get hb (k := k) (i := k) (by simp [hk])]
theorem swapAt_get {α : Type} (l : List α) (k j : Nat) (hk : k + 1 < l.length) : (swapAt l k)[j]? = if j = k then l[k + 1]? else if j = k + 1 then l[k]? else l[j]? := by
  obtain ⟨x, hx⟩ : ∃ x, l[k]? = some x := ⟨_, List.getElem?_eq_getElem (by omega)⟩
  obtain ⟨y, hy⟩ : ∃ y, l[k + 1]? = some y := ⟨_, List.getElem?_eq_getElem hk⟩
  rw [swapAt_of hx hy, List.getElem?_set, List.getElem?_set, List.length_set]
  by_cases h1 : j = k
  · subst h1
    rw [if_neg (by omega), if_pos rfl, if_pos (by omega), if_pos rfl, hy]
  · by_cases h2 : j = k + 1
    · subst h2
      rw [if_pos rfl, if_pos hk, if_neg h1, if_pos rfl, hx]
    · rw [if_neg (by omega), if_neg (by omega), if_neg h1, if_neg h2]
theorem swapAt_bound {o : List Nat} {n k : Nat} (h : ∀ i ∈ o, i < n) : ∀ i ∈ swapAt o k, i < n := fun i hi => h i (swapAt_mem hi)
theorem arr_swap {fs : List Ft} {o : List Nat} (hb : ∀ i ∈ o, i < fs.length) {k : Nat} (hk : k + 1 < o.length) : arr fs (swapAt o k) = swapAt (arr fs o) k := by
  have hb2 := swapAt_bound (k := k) hb
  refine ext_get (by rw [arr_len hb2, swapAt_len, swapAt_len, arr_len hb]) (fun j hj => ?_)
  rw [arr_len hb2, swapAt_len] at hj
  rw [swapAt_get _ _ _ (by rw [arr_len hb]; exact hk)]
  obtain ⟨z, hz⟩ : ∃ z, (swapAt o k)[j]? = some z := ⟨_, List.getElem?_eq_getElem (by rw [swapAt_len]; exact hj)⟩
  rw [arr_get hb2 hz]
  rw [swapAt_get _ _ _ hk] at hz
  by_cases h1 : j = k
  · rw [if_pos h1] at hz ⊢; rw [arr_get hb hz]
  · by_cases h2 : j = k + 1
    · rw [if_neg h1, if_pos h2] at hz ⊢; rw [arr_get hb hz]
    · rw [if_neg h1, if_neg h2] at hz ⊢; rw [arr_get hb hz]
theorem arr_valid {fs : List Ft} {o : List Nat} (h : fvalid fs = true) (hb : ∀ i ∈ o, i < fs.length) (hl : o.length = fs.length) : fvalid (arr fs o) = true :=
  fvalid_sub h (by rw [arr_len hb, hl]; exact Nat.le_refl _) (fun g hg => arr_mem hg)
/-- A rule moved up. -/
def lift1 : Nat → List Ft → List Ft × Nat
  | 0, fs => (fs, 0)
  | n + 1, fs => if cansw fs n then lift1 n (swapAt fs n) else (fs, n + 1)
def lift (fs : List Ft) (n : Int) : List Ft × Int := if fvalid fs && inB n 0 ((fs.length : Int) - 1) then ((lift1 n.toNat fs).1, ((lift1 n.toNat fs).2 : Int)) else ([], -1)
theorem lift1_len : ∀ (n : Nat) (fs : List Ft), (lift1 n fs).1.length = fs.length
  | 0, fs => rfl
  | n + 1, fs => by
    unfold lift1
    split
    · rw [lift1_len n, swapAt_len]
    · rfl
theorem lift1_mem : ∀ (n : Nat) (fs : List Ft) (g : Ft), g ∈ (lift1 n fs).1 → g ∈ fs
  | 0, fs, g, h => h
  | n + 1, fs, g, h => by
    unfold lift1 at h
    split at h
    · exact swapAt_mem (lift1_mem n _ g h)
    · exact h
theorem lift_valid (fs : List Ft) (n : Int) : fvalid (lift fs n).1 = true := by
  unfold lift
  split
  · rename_i h
    rw [Bool.and_eq_true] at h
    exact fvalid_sub h.1 (by rw [lift1_len]; exact Nat.le_refl _) (fun g hg => lift1_mem _ _ g hg)
  · rfl
/-- What the program asks of the graph is what the reference asks of the list. -/
theorem cansw_arr {fs : List Ft} {o : List Nat} (h : fvalid fs = true) (hb : ∀ i ∈ o, i < fs.length) (hl : o.length = fs.length) {k a b : Nat} (ha : o[k]? = some a) (hbb : o[k + 1]? = some b) : cansw (arr fs o) (k : Int) = !tieM fs a b := by
  have hk := (List.getElem?_eq_some_iff.1 hbb).1
  obtain ⟨f, hf⟩ : ∃ f, fs[a]? = some f := ⟨_, List.getElem?_eq_getElem (hb a (List.mem_of_getElem? ha))⟩
  obtain ⟨g, hg⟩ : ∃ g, fs[b]? = some g := ⟨_, List.getElem?_eq_getElem (hb b (List.mem_of_getElem? hbb))⟩
  unfold cansw
  rw [arr_valid h hb hl, arr_len hb, show inB (k : Int) 0 ((o.length : Int) - 2) = true from inB_iff.2 ⟨by omega, by omega⟩, Int.toNat_natCast,
    tiedAt_of (f := f) (g := g) (by rw [arr_get hb ha, hf]) (by rw [arr_get hb hbb, hg]), tieM_of hf hg]
  rfl
end Go.Proofs.YtnnmkdaioajkkaaDoor
