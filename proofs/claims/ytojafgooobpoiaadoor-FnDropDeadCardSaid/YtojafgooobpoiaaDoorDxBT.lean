/- Ties, boxes of rules, FlatBoxes; tails. -/
import Derived.Test.YtojafgooobpoiaaDoorFtW
import Derived.Test.YtojafgooobpoiaaDoorDt
import Derived.Deep.AppendLies
import Derived.Deep.RegionLaw
import Derived.Test.YtojafgooobpoiaaDoorDxAJ
namespace Go.Proofs.YtojafgooobpoiaaDoor
open Go.RowKit
/-- Whether rules a and b are tied, as the program asks: the later one first. -/
def tieM (fs : List Ft) (a b : Nat) : Bool := if a = b then false else tiedAt fs (max a b) (min a b)
/-- What is known behind i rows and j columns. -/
def kn (i j r c : Nat) : Bool := decide ((r < i ∧ c < i) ∨ (r = i ∧ c < j) ∨ (c = i ∧ r < j))
def tieRow (fs : List Ft) (n i j r : Nat) : List Bool := (List.range n).map fun c => kn i j r c && tieM fs r c
def tieAll (fs : List Ft) (n i j : Nat) : List (List Bool) := (List.range n).map fun r => if r ≤ i then tieRow fs n i j r else []
theorem tieRow_len (fs : List Ft) (n i j r : Nat) : (tieRow fs n i j r).length = n := by simp [tieRow]
theorem tieAll_len (fs : List Ft) (n i j : Nat) : (tieAll fs n i j).length = n := by simp [tieAll]
theorem tieRow_get {fs : List Ft} {n i j r c : Nat} (hc : c < n) : (tieRow fs n i j r)[c]? = some (kn i j r c && tieM fs r c) := by simp [tieRow, hc]
theorem tieAll_get {fs : List Ft} {n i j r : Nat} (hr : r < n) (hi : r ≤ i) : (tieAll fs n i j)[r]? = some (tieRow fs n i j r) := by simp [tieAll, hr, hi]
theorem tieAll_nil {fs : List Ft} {n i j r : Nat} (hr : r < n) (hi : i < r) : (tieAll fs n i j)[r]? = some [] := by simp [tieAll, hr]; omega
theorem tieM_symm (fs : List Ft) (a b : Nat) : tieM fs a b = tieM fs b a := by
  unfold tieM
  by_cases h : a = b
  · subst h; rfl
  · rw [if_neg h, if_neg (fun e => h e.symm), Nat.max_comm, Nat.min_comm]
/-- The row i is new. -/
theorem tieAll_row {fs : List Ft} {n i : Nat} (_hi : i + 1 < n) : (tieAll fs n i (i + 0)).set (i + 1) (List.replicate n false) = (tieAll fs n i i).set (i + 1) (List.replicate n false) := rfl
theorem ext_get {α : Type} {a b : List α} (hl : a.length = b.length) (h : ∀ k, k < a.length → a[k]? = b[k]?) : a = b := by
  apply List.ext_getElem?
  intro k
  by_cases hk : k < a.length
  · exact h k hk
  · rw [List.getElem?_eq_none (by omega), List.getElem?_eq_none (by omega)]
theorem tieRow_next (fs : List Ft) (n i r : Nat) (hr : r ≤ i) : tieRow fs n i i r = tieRow fs n (i + 1) 0 r := by
  unfold tieRow
  apply List.map_congr_left
  intro c _
  by_cases e : r = i ∧ c = i
  · obtain ⟨rfl, rfl⟩ := e
    simp [tieM]
  · congr 1
    unfold kn
    congr 1
    apply propext
    omega
theorem tieRow_zero (fs : List Ft) (n i : Nat) : tieRow fs n i 0 i = List.replicate n false := by
  refine ext_get (by simp [tieRow]) (fun c hc => ?_)
  rw [tieRow_len] at hc
  rw [tieRow_get hc, List.getElem?_replicate, if_pos hc, show kn i 0 i c = false from by unfold kn; rw [decide_eq_false]; omega]
  rfl
/-- The next row is made. -/
theorem tieAll_next {fs : List Ft} {n i : Nat} (_hi : i + 1 < n) : (tieAll fs n i i).set (i + 1) (List.replicate n false) = tieAll fs n (i + 1) 0 := by
  refine ext_get (by simp [tieAll]) (fun r hr => ?_)
  rw [List.length_set, tieAll_len] at hr
  rw [List.getElem?_set]
  by_cases e : i + 1 = r
  · subst e
    rw [if_pos rfl, tieAll_len, if_pos hr, tieAll_get hr (Nat.le_refl _), tieRow_zero]
  · rw [if_neg e]
    by_cases h : r ≤ i
    · rw [tieAll_get hr h, tieAll_get hr (by omega), tieRow_next fs n i r h]
    · rw [tieAll_nil hr (by omega), tieAll_nil hr (by omega)]
theorem tieRow_set1 {fs : List Ft} {n i j : Nat} (hj : j < i) (_hi : i < n) : (tieRow fs n i j i).set j (tieM fs i j) = tieRow fs n i (j + 1) i := by
  refine ext_get (by simp [tieRow]) (fun c hc => ?_)
  rw [List.length_set, tieRow_len] at hc
  rw [List.getElem?_set]
  by_cases e : j = c
  · subst e
    rw [if_pos rfl, tieRow_len, if_pos hc, tieRow_get hc, show kn i (j + 1) i j = true from by unfold kn; rw [decide_eq_true]; omega]
    rfl
  · rw [if_neg e, tieRow_get hc, tieRow_get hc]
    congr 2
    unfold kn
    congr 1
    apply propext
    omega
theorem tieRow_set2 {fs : List Ft} {n i j : Nat} (hj : j < i) (_hi : i < n) : (tieRow fs n i j j).set i (tieM fs i j) = tieRow fs n i (j + 1) j := by
  refine ext_get (by simp [tieRow]) (fun c hc => ?_)
  rw [List.length_set, tieRow_len] at hc
  rw [List.getElem?_set]
  by_cases e : i = c
  · subst e
    rw [if_pos rfl, tieRow_len, if_pos hc, tieRow_get hc, show kn i (j + 1) j i = true from by unfold kn; rw [decide_eq_true]; omega, Bool.true_and, tieM_symm]
  · rw [if_neg e, tieRow_get hc, tieRow_get hc]
    congr 2
    unfold kn
    congr 1
    apply propext
    omega
theorem tieRow_other {fs : List Ft} {n i j r : Nat} (h1 : r ≠ i) (h2 : r ≠ j) : tieRow fs n i j r = tieRow fs n i (j + 1) r := by
  unfold tieRow
  apply List.map_congr_left
  intro c _
  congr 1
  unfold kn
  congr 1
  apply propext
  omega
/-- Both cells are stored. -/
theorem tieAll_step {fs : List Ft} {n i j : Nat} (hj : j < i) (hi : i < n) :
    ((tieAll fs n i j).set i ((tieRow fs n i j i).set j (tieM fs i j))).set j ((tieRow fs n i j j).set i (tieM fs i j)) = tieAll fs n i (j + 1) := by
  refine ext_get (by simp [tieAll]) (fun r hr => ?_)
  rw [List.length_set, List.length_set, tieAll_len] at hr
  rw [List.getElem?_set, List.getElem?_set, tieRow_set1 hj hi, tieRow_set2 hj hi, List.length_set, tieAll_len]
  by_cases e : j = r
  · subst e
    rw [if_pos rfl, if_pos hr, tieAll_get hr (by omega)]
  · rw [if_neg e]
    by_cases e2 : i = r
    · subst e2
      rw [if_pos rfl, if_pos hr, tieAll_get hr (Nat.le_refl _)]
    · rw [if_neg e2]
      by_cases h : r ≤ i
      · rw [tieAll_get hr h, tieAll_get hr h, tieRow_other (by omega) (by omega)]
      · rw [tieAll_nil hr (by omega), tieAll_nil hr (by omega)]
/-- The whole graph. -/
def ties (fs : List Ft) : List (List Bool) := (List.range fs.length).map fun r => (List.range fs.length).map fun c => tieM fs r c
theorem ties_get {fs : List Ft} {r : Nat} (hr : r < fs.length) : (ties fs)[r]? = some ((List.range fs.length).map fun c => tieM fs r c) := by simp [ties, hr]
theorem tieM_at {fs : List Ft} {r c : Nat} (hc : c < fs.length) : ((List.range fs.length).map fun c => tieM fs r c)[c]? = some (tieM fs r c) := by simp [hc]
theorem tieAll_done {fs : List Ft} {i : Nat} (h : fs.length = i + 1) : tieAll fs fs.length i i = ties fs := by
  unfold tieAll ties
  apply List.map_congr_left
  intro r hr
  rw [List.mem_range] at hr
  rw [if_pos (by omega)]
  unfold tieRow
  apply List.map_congr_left
  intro c hc
  rw [List.mem_range] at hc
  by_cases e : r = c
  · subst e; simp [tieM]
  · rw [show kn i i r c = true from by unfold kn; rw [decide_eq_true]; omega, Bool.true_and]
theorem meet1_comm (x y : Sp) : meet1 x y = meet1 y x := by
  unfold meet1
  rw [show max x.lo y.lo = max y.lo x.lo from by omega, show min x.hi y.hi = min y.hi x.hi from by omega]
theorem smeet_nil {a b : List Sp} (h : smeet a b = []) : smeet b a = [] := by
  unfold smeet at h
  rw [List.flatMap_eq_nil_iff] at h
  refine smeet_none (fun p q u v hu hv => ?_)
  have := h v (List.mem_of_getElem? hv)
  rw [List.filterMap_eq_nil_iff] at this
  rw [meet1_comm]
  exact this u (List.mem_of_getElem? hu)
theorem smeet_emp (a b : List Sp) : (smeet a b).isEmpty = (smeet b a).isEmpty := by
  by_cases h : smeet a b = []
  · rw [h, smeet_nil h]
  · have h2 : smeet b a ≠ [] := fun e => h (smeet_nil e)
    cases h3 : smeet a b with
    | nil => exact absurd h3 h
    | cons x xs =>
      cases h4 : smeet b a with
      | nil => exact absurd h4 h2
      | cons y ys => rfl
theorem bempty_comm : ∀ a b : Bx, bempty (bmeet a b) = bempty (bmeet b a)
  | [], [] => rfl
  | [], _ :: _ => rfl
  | _ :: _, [] => rfl
  | x :: a, y :: b => by
    have ih := bempty_comm a b
    unfold bempty bmeet at ih ⊢
    rw [List.zipWith_cons_cons, List.zipWith_cons_cons, List.any_cons, List.any_cons, ih, smeet_emp]
theorem tiedB_symm (f g : Ft) : tiedB f g = tiedB g f := by
  unfold tiedB
  rw [bempty_comm]
  congr 2
  by_cases h : f.acc = g.acc
  · rw [decide_eq_true h, decide_eq_true h.symm]
  · rw [decide_eq_false h, decide_eq_false (fun e => h e.symm)]
theorem tiedB_self (f : Ft) : tiedB f f = false := by simp [tiedB]
theorem tieM_of {fs : List Ft} {a b : Nat} {f g : Ft} (hf : fs[a]? = some f) (hg : fs[b]? = some g) : tieM fs a b = tiedB f g := by
  unfold tieM
  by_cases h : a = b
  · subst h
    rw [hf] at hg
    cases hg
    rw [if_pos rfl, tiedB_self]
  · rw [if_neg h]
    rcases Nat.lt_or_ge a b with hlt | hge
    · rw [Nat.max_eq_right (by omega), Nat.min_eq_left (by omega), tiedAt_of hg hf, tiedB_symm]
    · rw [Nat.max_eq_left hge, Nat.min_eq_right hge, tiedAt_of hf hg]
/-- Rules in another order, by their numbers. -/
def arr (fs : List Ft) (o : List Nat) : List Ft := o.filterMap fun i => fs[i]?
theorem arr_get {fs : List Ft} : ∀ {o : List Nat}, (∀ i ∈ o, i < fs.length) → ∀ {k i : Nat}, o[k]? = some i → (arr fs o)[k]? = fs[i]?
  | [], _, k, i, h => by simp at h
  | x :: o, hb, 0, i, h => by
    simp at h
    subst h
    have hx := hb x (by simp)
    unfold arr
    rw [List.filterMap_cons, List.getElem?_eq_getElem hx]
    rfl
  | x :: o, hb, k + 1, i, h => by
    have hx := hb x (by simp)
    have ih := arr_get (fs := fs) (o := o) (fun i hi => hb i (by simp [hi])) (k := k) (i := i) (by simpa using h)
    unfold arr at ih ⊢
    rw [List.filterMap_cons, List.getElem?_eq_getElem hx]
    simpa using ih
theorem arr_len {fs : List Ft} : ∀ {o : List Nat}, (∀ i ∈ o, i < fs.length) → (arr fs o).length = o.length
  | [], _ => rfl
  | x :: o, hb => by
    have hx := hb x (by simp)
    have ih := arr_len (fs := fs) (o := o) (fun i hi => hb i (by simp [hi]))
    unfold arr at ih ⊢
    rw [List.filterMap_cons, List.getElem?_eq_getElem hx]
    simp [ih]
theorem arr_mem {fs : List Ft} {o : List Nat} {f : Ft} (h : f ∈ arr fs o) : f ∈ fs := by
  unfold arr at h
  rw [List.mem_filterMap] at h
  obtain ⟨i, _, hi⟩ := h
  exact List.mem_of_getElem? hi
theorem arr_range (fs : List Ft) : arr fs (List.range fs.length) = fs := by
  have hb : ∀ i ∈ List.range fs.length, i < fs.length := fun i hi => List.mem_range.1 hi
  refine ext_get (by rw [arr_len hb, List.length_range]) (fun k hk => ?_)
  rw [arr_len hb, List.length_range] at hk
  rw [arr_get hb (k := k) (i := k) (by simp [hk])]
theorem swapAt_get {α : Type} (l : List α) (k j : Nat) (hk : k + 1 < l.length) : (swapAt l k)[j]? = if j = k then l[k + 1]? else if j = k + 1 then l[k]? else l[j]? := by
  obtain ⟨x, hx⟩ : ∃ x, l[k]? = some x := ⟨_, List.getElem?_eq_getElem (by omega)⟩
  obtain ⟨y, hy⟩ : ∃ y, l[k + 1]? = some y := ⟨_, List.getElem?_eq_getElem hk⟩
  rw [swapAt_of hx hy, List.getElem?_set, List.getElem?_set, List.length_set]
  by_cases h1 : j = k
  · subst h1
    rw [if_neg (by omega), if_pos rfl, if_pos (by omega), if_pos rfl, hy]
  · by_cases h2 : j = k + 1
    · subst h2
      rw [if_pos rfl, if_pos hk, if_neg h1, if_pos rfl, hx]
    · rw [if_neg (by omega), if_neg (by omega), if_neg h1, if_neg h2]
theorem swapAt_bound {o : List Nat} {n k : Nat} (h : ∀ i ∈ o, i < n) : ∀ i ∈ swapAt o k, i < n := fun i hi => h i (swapAt_mem hi)
theorem arr_swap {fs : List Ft} {o : List Nat} (hb : ∀ i ∈ o, i < fs.length) {k : Nat} (hk : k + 1 < o.length) : arr fs (swapAt o k) = swapAt (arr fs o) k := by
  have hb2 := swapAt_bound (k := k) hb
  refine ext_get (by rw [arr_len hb2, swapAt_len, swapAt_len, arr_len hb]) (fun j hj => ?_)
  rw [arr_len hb2, swapAt_len] at hj
  rw [swapAt_get _ _ _ (by rw [arr_len hb]; exact hk)]
  obtain ⟨z, hz⟩ : ∃ z, (swapAt o k)[j]? = some z := ⟨_, List.getElem?_eq_getElem (by rw [swapAt_len]; exact hj)⟩
  rw [arr_get hb2 hz]
  rw [swapAt_get _ _ _ hk] at hz
  by_cases h1 : j = k
  · rw [if_pos h1] at hz ⊢; rw [arr_get hb hz]
  · by_cases h2 : j = k + 1
    · rw [if_neg h1, if_pos h2] at hz ⊢; rw [arr_get hb hz]
    · rw [if_neg h1, if_neg h2] at hz ⊢; rw [arr_get hb hz]
theorem arr_valid {fs : List Ft} {o : List Nat} (h : fvalid fs = true) (hb : ∀ i ∈ o, i < fs.length) (hl : o.length = fs.length) : fvalid (arr fs o) = true :=
  fvalid_sub h (by rw [arr_len hb, hl]; exact Nat.le_refl _) (fun g hg => arr_mem hg)
/-- A rule moved up. -/
def lift1 : Nat → List Ft → List Ft × Nat
  | 0, fs => (fs, 0)
  | n + 1, fs => if cansw fs n then lift1 n (swapAt fs n) else (fs, n + 1)
def lift (fs : List Ft) (n : Int) : List Ft × Int := if fvalid fs && inB n 0 ((fs.length : Int) - 1) then ((lift1 n.toNat fs).1, ((lift1 n.toNat fs).2 : Int)) else ([], -1)
theorem lift1_len : ∀ (n : Nat) (fs : List Ft), (lift1 n fs).1.length = fs.length
  | 0, fs => rfl
  | n + 1, fs => by
    unfold lift1
    split
    · rw [lift1_len n, swapAt_len]
    · rfl
theorem lift1_mem : ∀ (n : Nat) (fs : List Ft) (g : Ft), g ∈ (lift1 n fs).1 → g ∈ fs
  | 0, fs, g, h => h
  | n + 1, fs, g, h => by
    unfold lift1 at h
    split at h
    · exact swapAt_mem (lift1_mem n _ g h)
    · exact h
theorem lift_valid (fs : List Ft) (n : Int) : fvalid (lift fs n).1 = true := by
  unfold lift
  split
  · rename_i h
    rw [Bool.and_eq_true] at h
    exact fvalid_sub h.1 (by rw [lift1_len]; exact Nat.le_refl _) (fun g hg => lift1_mem _ _ g hg)
  · rfl
/-- What the program asks of the graph is what the reference asks of the list. -/
theorem cansw_arr {fs : List Ft} {o : List Nat} (h : fvalid fs = true) (hb : ∀ i ∈ o, i < fs.length) (hl : o.length = fs.length) {k a b : Nat} (ha : o[k]? = some a) (hbb : o[k + 1]? = some b) : cansw (arr fs o) (k : Int) = !tieM fs a b := by
  have hk := (List.getElem?_eq_some_iff.1 hbb).1
  obtain ⟨f, hf⟩ : ∃ f, fs[a]? = some f := ⟨_, List.getElem?_eq_getElem (hb a (List.mem_of_getElem? ha))⟩
  obtain ⟨g, hg⟩ : ∃ g, fs[b]? = some g := ⟨_, List.getElem?_eq_getElem (hb b (List.mem_of_getElem? hbb))⟩
  unfold cansw
  rw [arr_valid h hb hl, arr_len hb, show inB (k : Int) 0 ((o.length : Int) - 2) = true from inB_iff.2 ⟨by omega, by omega⟩, Int.toNat_natCast,
    tiedAt_of (f := f) (g := g) (by rw [arr_get hb ha, hf]) (by rw [arr_get hb hbb, hg]), tieM_of hf hg]
  rfl
structure R4 where
  v0 : Value
  v1 : Value
  v2 : Value
  v3 : Value
abbrev R4.enc (r : R4) : List Value := [r.v0, r.v1, r.v2, r.v3]
def R4.ok (lo : Nat) (w : World) (r : R4) (b : Bx) : Prop := All2 (Sps lo w) [r.v0, r.v1, r.v2, r.v3] b
def Iss (lo : Nat) (w : World) (v : Value) (bs : List Bx) : Prop := ∃ rs, SlFr lo 4 R4.enc w v rs ∧ All2 (R4.ok lo w) rs bs
theorem Iss.below {lo : Nat} {w w' : World} {v : Value} {bs : List Bx} (h : Iss lo w v bs) (hb : Below w.heap.size w w') : Iss lo w' v bs :=
  let ⟨rs, h1, h2⟩ := h
  ⟨rs, h1.below hb, h2.mono (fun _ _ h => (h.mono (fun _ _ h => h.below hb) : All2 _ _ _))⟩
theorem Iss.form {lo : Nat} {w : World} {v : Value} {bs : List Bx} (h : Iss lo w v bs) : ∃ a cap, v = .slice a bs.length cap ∧ bs.length ≤ cap ∧ cap ≤ maxLen := by
  obtain ⟨rs, ⟨a, cap, rfl, h1, h2, _⟩, h3⟩ := h
  exact ⟨a, cap, by rw [h3.1], by rw [← h3.1]; exact h1, h2⟩
theorem Iss.at {lo : Nat} {w : World} {a : Option Addr} {n cap : Nat} {bs : List Bx} (h : Iss lo w (.slice a n cap) bs) {k : Nat} {f : Bx} (hk : bs[k]? = some f) :
    ∃ b o v0 v1 v2 v3, a = some ⟨b, o, none⟩ ∧ b < w.heap.size ∧ w.cell? ⟨b, o + k * 4, none⟩ = some v0 ∧ w.cell? ⟨b, o + k * 4 + 1, none⟩ = some v1 ∧ w.cell? ⟨b, o + k * 4 + 2, none⟩ = some v2 ∧ w.cell? ⟨b, o + k * 4 + 3, none⟩ = some v3 ∧ All2 (Sps lo w) [v0, v1, v2, v3] f := by
  obtain ⟨rs, ⟨a', cap', he, _, _, hx⟩, h2⟩ := h
  obtain ⟨rfl, _, _⟩ := Value.slice.inj he
  obtain ⟨r, hr, hs⟩ := h2.left hk
  obtain ⟨b, o, ha, _, hb, hc⟩ := hx k r hr
  exact ⟨b, o, r.v0, r.v1, r.v2, r.v3, ha, hb, by simpa using hc 0 _ rfl, hc 1 _ rfl, hc 2 _ rfl, hc 3 _ rfl, hs⟩
theorem infoSd : (Tryd.prog.info? 82).map (fun i => (i.zero, i.size, i.bytes)) = some (some (.agg #[.slice none 0 0, .slice none 0 0, .slice none 0 0, .slice none 0 0]), 4, 96) := by kernel_rfl
theorem infoBx : (Tryd.prog.info? 40).map (fun i => (i.zero, i.size, i.bytes)) = some (some (.agg #[.slice none 0 0]), 1, 24) := by kernel_rfl
def fboxes (fs : List Ft) : List Bx := fs.map Ft.box
theorem fboxes_get {fs : List Ft} {k : Nat} {f : Ft} (h : fs[k]? = some f) : (fboxes fs)[k]? = some f.box := by simp [fboxes, h]
/-- Rules inside the program whose sets are as Q says. -/
def IfsQ (Q : Value → List Sp → Prop) (lo : Nat) (w : World) (v : Value) (fs : List Ft) : Prop := ∃ rs, SlFr lo 5 R5.enc w v rs ∧ All2 (fun (r : R5) (f : Ft) => All2 Q [r.v0, r.v1, r.v2, r.v3] f.box ∧ r.acc = f.acc) rs fs
theorem Ifs.q {lo : Nat} {w : World} {v : Value} {fs : List Ft} (h : Ifs lo w v fs) : IfsQ (Sps lo w) lo w v fs := h
theorem IfsQ.form {Q : Value → List Sp → Prop} {lo : Nat} {w : World} {v : Value} {fs : List Ft} (h : IfsQ Q lo w v fs) : ∃ a cap, v = .slice a fs.length cap ∧ fs.length ≤ cap ∧ cap ≤ maxLen := by
  obtain ⟨vs, ⟨a, cap, rfl, h1, h2, _⟩, h3⟩ := h
  exact ⟨a, cap, by rw [h3.1], by rw [← h3.1]; exact h1, h2⟩
theorem IfsQ.at {Q : Value → List Sp → Prop} {lo : Nat} {w : World} {a : Option Addr} {n cap : Nat} {fs : List Ft} (h : IfsQ Q lo w (.slice a n cap) fs) {k : Nat} {f : Ft} (hk : fs[k]? = some f) :
    ∃ b o v0 v1 v2 v3, a = some ⟨b, o, none⟩ ∧ b < w.heap.size ∧ w.cell? ⟨b, o + k * 5, none⟩ = some v0 ∧ w.cell? ⟨b, o + k * 5 + 1, none⟩ = some v1 ∧ w.cell? ⟨b, o + k * 5 + 2, none⟩ = some v2 ∧ w.cell? ⟨b, o + k * 5 + 3, none⟩ = some v3 ∧
      w.cell? ⟨b, o + k * 5 + 4, none⟩ = some (.bool f.acc) ∧ All2 Q [v0, v1, v2, v3] f.box := by
  obtain ⟨rs, ⟨a', cap', he, _, _, hx⟩, h2⟩ := h
  obtain ⟨rfl, _, _⟩ := Value.slice.inj he
  obtain ⟨r, hr, hs, hacc⟩ := h2.left hk
  obtain ⟨b, o, ha, _, hb, hc⟩ := hx k r hr
  exact ⟨b, o, r.v0, r.v1, r.v2, r.v3, ha, hb, by simpa using hc 0 _ rfl, hc 1 _ rfl, hc 2 _ rfl, hc 3 _ rfl, by rw [← hacc]; exact hc 4 _ rfl, hs⟩
def QSl (Q : Value → List Sp → Prop) : Prop := ∀ v xs, Q v xs → ∃ a n c, v = .slice a n c
theorem QSl.sps (lo : Nat) (w : World) : QSl (Sps lo w) := fun v xs h => by
  obtain ⟨a, c, rfl, -, -⟩ := h.form
  exact ⟨_, _, _, rfl⟩
theorem QSl.form4 {Q : Value → List Sp → Prop} (hQ : QSl Q) {v0 v1 v2 v3 : Value} {b : Bx} (h : All2 Q [v0, v1, v2, v3] b) : ∃ a0 n0 p0 a1 n1 p1 a2 n2 p2 a3 n3 p3, v0 = .slice a0 n0 p0 ∧ v1 = .slice a1 n1 p1 ∧ v2 = .slice a2 n2 p2 ∧ v3 = .slice a3 n3 p3 := by
  have hl : b.length = 4 := h.1.symm
  have key : ∀ (j : Nat) v, [v0, v1, v2, v3][j]? = some v → ∃ a n c, v = .slice a n c := fun j v hj => by
    have hlt := (List.getElem?_eq_some_iff.1 hj).1
    exact hQ v _ (h.2 j v _ hj (List.getElem?_eq_getElem (by simp at hlt; omega)))
  obtain ⟨a0, n0, p0, e0⟩ := key 0 _ rfl
  obtain ⟨a1, n1, p1, e1⟩ := key 1 _ rfl
  obtain ⟨a2, n2, p2, e2⟩ := key 2 _ rfl
  obtain ⟨a3, n3, p3, e3⟩ := key 3 _ rfl
  exact ⟨a0, n0, p0, a1, n1, p1, a2, n2, p2, a3, n3, p3, e0, e1, e2, e3⟩
set_option maxHeartbeats 2000000 in
set_option maxRecDepth 100000 in
theorem wheresQ_any {lo : Nat} {Q : Value → List Sp → Prop} (hQ : QSl Q) (fs : List Ft) (v : Value) (w : World) (hs : IfsQ Q lo w v fs) (hl : fs.length ≤ 1000000) :
    Calls Tryd.prog 47 #[v] w fun e w' => ∃ v', e = .returned v' ∧ (∃ rs, SlFr 0 4 R4.enc w' v' rs ∧ All2 (fun (r : R4) (b : Bx) => All2 Q [r.v0, r.v1, r.v2, r.v3] b) rs (fboxes fs)) ∧ Below w.heap.size w w' := by
  obtain ⟨a, cap, rfl, hlc, hcm⟩ := hs.form
  unfold maxLen at hcm
  generalize hn : fs.length = n at *
  have HN := Lib.hid hn
  have HS := Lib.hid hs
  obtain ⟨i0, hi, hy0, hy1, hy2⟩ := info_parts infoSd
  clear hn hs
  go_enter Tryd.func47, Tryd.ntmps47
  go_wp2_with (at_make; refine wpList_make_own _ rfl _ _ 74 rfl w.heap.size 82 i0 _ 4 Tryd.underlying74 hi hy0 hy1 _ _ _ n rfl rfl rfl ?b1 ?b2 ?b3 ?_)
  case b1 => rw [hy2]; omega
  case b2 => simp only [maxLen]; omega
  case b3 => omega
  intro w1 hown1 hgrow1
  have hb1 : Below w.heap.size w w1 := (Below.refl _ _).grown hgrow1 (Nat.le_refl _) (fun k hk => by cases hk)
  have HO1 := Lib.hid (show OwnSl w.heap.size 82 4 R4.enc w1 (.slice (some ⟨w.heap.size, 0, none⟩) 0 n) ([] : List R4) by simpa [OwnSl] using hown1)
  clear hown1 hgrow1
  go_wp2_with fail
  go_loopw [3, 5, 11] (fun o _ i wr => ∃ (k : Nat) (rs : List R4), k ≤ n ∧ i = .int .i64 k ∧ OwnSl w.heap.size 82 4 R4.enc wr o rs ∧ Hid (All2 (fun (r : R4) (b : Bx) => All2 Q [r.v0, r.v1, r.v2, r.v3] b) rs ((fboxes fs).take k)) ∧ Below w.heap.size w wr) (fun _ _ i _ => n - (intOf i).toNat)
  case atStart => exact ⟨0, [], by omega, rfl, HO1.out, Lib.hid (by simpa using All2.nil), hb1⟩
  case round =>
    obtain ⟨k, rs, hk, rfl, hO, HR, hbr⟩ := hrel
    have HO := Lib.hid hO
    clear hO HO1 hb1
    have hzr := hbr.size
    by_cases hlt : k < n
    · have i1 : (k : Int) < (n : Int) := by omega
      have i2 : (0 : Int) ≤ (k : Int) := by omega
      obtain ⟨f, hx⟩ : ∃ f, fs[k]? = some f := ⟨_, List.getElem?_eq_getElem (by rw [HN.out]; exact hlt)⟩
      obtain ⟨b, o, v0, v1, v2, v3, rfl, hbl, c0, c1, c2, c3, c4, hss⟩ := HS.out.at hx
      replace c0 := (hbr.cell (p := ⟨b, o + k * 5, none⟩) hbl).trans c0
      replace c1 := (hbr.cell (p := ⟨b, o + k * 5 + 1, none⟩) hbl).trans c1
      replace c2 := (hbr.cell (p := ⟨b, o + k * 5 + 2, none⟩) hbl).trans c2
      replace c3 := (hbr.cell (p := ⟨b, o + k * 5 + 3, none⟩) hbl).trans c3
      replace c4 := (hbr.cell (p := ⟨b, o + k * 5 + 4, none⟩) hbl).trans c4
      replace hbl := Nat.lt_of_lt_of_le hbl hzr
      obtain ⟨a0, n0, p0, a1, n1, p1, a2, n2, p2, a3, n3, p3, rfl, rfl, rfl, rfl⟩ := hQ.form4 hss
      have HXX := Lib.hid (fboxes_get hx)
      have HSS := Lib.hid hss
      have HBD := Lib.hid (show rs.length ≤ 1000000 by have := HR.out.1; rw [List.length_take] at this; omega)
      clear hx hss
      go_wp2_with (at_builtin; refine wpList_append_own _ rfl _ _ 74 rfl w.heap.size 82 i0 _ 4 96 Tryd.underlying74 hi hy0 hy1 hy2 rfl (by decide) _ _ _ rfl (World.ownsRow.alloc (World.ownsRow.alloc HO.out _) _) ⟨wr.heap.size + 1, 0, none⟩ 1 1 (R4.enc ⟨.slice a0 n0 p0, .slice a1 n1 p1, .slice a2 n2 p2, .slice a3 n3 p3⟩) rfl rfl (cellsNew2 wr _ _ (R4.enc ⟨.slice a0 n0 p0, .slice a1 n1 p1, .slice a2 n2 p2, .slice a3 n3 p3⟩) _) ?c2 ?c3 ?c4 ?c5 ?_)
      case c2 => simp [Value.oneCell']
      case c3 => have := HBD.out; simp only [maxLen]; omega
      case c4 => have := HBD.out; omega
      case c5 => simp; omega
      intro v' w5 hown5 hgrow5 _
      have hB := belGrown ((hbr.alloc hzr _).alloc (by simp; omega) _) (World.ownsRow.alloc (World.ownsRow.alloc HO.out _) _) hgrow5 (by simp; omega)
      have HO6 := Lib.hid (OwnSl.pushed rfl hown5)
      have HR6 := Lib.hid (show All2 (fun (r : R4) (b : Bx) => All2 Q [r.v0, r.v1, r.v2, r.v3] b) (rs ++ [⟨.slice a0 n0 p0, .slice a1 n1 p1, .slice a2 n2 p2, .slice a3 n3 p3⟩]) ((fboxes fs).take (k + 1)) by
        rw [List.take_add_one, HXX.out]
        exact All2.snoc HR.out HSS.out)
      clear hown5 hgrow5
      go_wp2
      go_roundw
      case rel => exact ⟨k + 1, _, by omega, by go_num, HO6.out, HR6, hB⟩
      case measure => simp [intOf]; omega
    · have hkn : k = n := by omega
      go_wp2
      go_ret
      have hR := HR.out
      rw [List.take_of_length_le (by simp [fboxes, HN.out]; omega)] at hR
      exact ⟨u3, rfl, ⟨rs, OwnSl.fr (sz := 4) (enc := R4.enc) (fun _ => rfl) (OwnSl.mono HO.out (Nat.zero_le _)), hR⟩, hbr⟩
theorem wheres_any {lo : Nat} (fs : List Ft) (v : Value) (w : World) (hs : Ifs lo w v fs) (hl : fs.length ≤ 1000000) :
    Calls Tryd.prog 47 #[v] w fun e w' => ∃ v', e = .returned v' ∧ Iss 0 w' v' (fboxes fs) ∧ Below w.heap.size w w' := by
  refine (wheresQ_any (QSl.sps lo w) fs v w hs.q hl).mono ?_
  rintro e w' ⟨v', rfl, ⟨rs, h1, h2⟩, hb⟩
  exact ⟨v', rfl, ⟨rs, h1, h2.mono (fun r b h => (All2.mono h (fun _ _ h => (h.below hb).mono (Nat.zero_le _)) : All2 _ _ _))⟩, hb⟩
/-- Boxes in a list of the call's own. -/
def BsO (lo : Nat) (w : World) (v : Value) (bs : List Bx) : Prop :=
  ∃ vs, OwnSl lo 40 1 enc1 w v vs ∧ All2 (fun r b => Rws lo (hole w v.ownBlock) r b) vs bs
theorem BsO.bxs {lo : Nat} {w : World} {v : Value} {bs : List Bx} (h : BsO lo w v bs) : Bxs lo w v bs :=
  let ⟨vs, h1, h2⟩ := h
  ⟨vs, OwnSl.fr (sz := 1) (enc := enc1) (fun _ => rfl) h1, h2.mono (fun _ _ h => h.sub (Sb.out _ _ _))⟩
theorem BsO.push {lo : Nat} {w w2 : World} {v v' : Value} {bs : List Bx} {vs : List Value} {r : Value} {b : Bx} {H : Nat} (h1 : All2 (fun r b => Rws lo (hole w v.ownBlock) r b) vs bs)
    (hr : Rws lo (hole w v.ownBlock) r b) (hg : w.heap.size ≤ w2.heap.size ∧ ∀ k, k < w.heap.size → some k ≠ v.ownBlock → w2.heap[k]? = w.heap[k]?)
    (hown : OwnSl lo 40 1 enc1 w2 v' (vs ++ [r])) (hat : ∀ z, v'.ownBlock = some z → v.ownBlock = some z ∨ z = H) (hH : w.heap.size ≤ H) : BsO lo w2 v' (bs ++ [b]) := by
  have hsb : Sb lo (hole w v.ownBlock) (hole w2 v'.ownBlock) := Sb.hole hg.1 (fun k _ k2 k3 => ⟨fun e => by
    rcases hat k e.symm with h | h
    · exact k3 h.symm
    · omega, hg.2 k k2 k3⟩)
  exact ⟨vs ++ [r], hown, (h1.mono (fun _ _ h => h.sub hsb)).snoc (hr.sub hsb)⟩
set_option maxHeartbeats 2000000 in
set_option maxRecDepth 100000 in
theorem boxesOf_any {lo : Nat} (bs : List Bx) (v : Value) (w : World) (hs : Iss lo w v bs) (hl : bs.length ≤ 1000000) (hle : ∀ (k : Nat) b, bs[k]? = some b → ∀ (j : Nat) xs, b[j]? = some xs → xs.length ≤ 1000000) :
    Calls Tryd.prog 46 #[v] w fun e w' => ∃ v', e = .returned v' ∧ BsO w.heap.size w' v' bs ∧ Below w.heap.size w w' := by
  obtain ⟨a, cap, rfl, hlc, hcm⟩ := hs.form
  unfold maxLen at hcm
  generalize hn : bs.length = n at *
  have HN := Lib.hid hn
  have HS := Lib.hid hs
  obtain ⟨i0, hi, hy0, hy1, hy2⟩ := info_parts infoBx
  clear hn hs
  go_enter Tryd.func46, Tryd.ntmps46
  go_wp2_with (at_make; refine wpList_make_own _ rfl _ _ 32 rfl w.heap.size 40 i0 _ 1 Tryd.underlying32 hi hy0 hy1 _ _ _ n rfl rfl rfl ?b1 ?b2 ?b3 ?_)
  case b1 => rw [hy2]; omega
  case b2 => simp only [maxLen]; omega
  case b3 => omega
  intro w1 hown1 hgrow1
  have hb1 : Below w.heap.size w w1 := (Below.refl _ _).grown hgrow1 (Nat.le_refl _) (fun k hk => by cases hk)
  have HO1 := Lib.hid (show BsO w.heap.size w1 (.slice (some ⟨w.heap.size, 0, none⟩) 0 n) [] from ⟨[], by simpa [OwnSl] using hown1, All2.nil⟩)
  clear hown1 hgrow1
  go_wp2_with fail
  go_loopw [3, 5, 11] (fun o _ i wr => ∃ (k : Nat), k ≤ n ∧ i = .int .i64 k ∧ Hid (BsO w.heap.size wr o (bs.take k)) ∧ Below w.heap.size w wr) (fun _ _ i _ => n - (intOf i).toNat)
  case atStart => exact ⟨0, by omega, rfl, HO1, hb1⟩
  case round =>
    obtain ⟨k, hk, rfl, HO, hbr⟩ := hrel
    clear HO1 hb1
    have hzr := hbr.size
    by_cases hlt : k < n
    · have i1 : (k : Int) < (n : Int) := by omega
      have i2 : (0 : Int) ≤ (k : Int) := by omega
      obtain ⟨f, hx⟩ : ∃ f, bs[k]? = some f := ⟨_, List.getElem?_eq_getElem (by rw [HN.out]; exact hlt)⟩
      obtain ⟨b, o, v0, v1, v2, v3, rfl, hbl, c0, c1, c2, c3, hss⟩ := (HS.out.below hbr).at hx
      obtain ⟨a0, n0, p0, a1, n1, p1, a2, n2, p2, a3, n3, p3, rfl, rfl, rfl, rfl⟩ := sl4_form hss
      have HXX := Lib.hid hx
      have HSS := Lib.hid hss
      have HLF := Lib.hid (hle k f hx)
      obtain ⟨vs, hvs, hal⟩ := HO.out
      obtain ⟨ua, uc, hu, -, -⟩ : ∃ a c, u3 = .slice a vs.length c ∧ True ∧ True := by
        rcases OwnSl.form hvs with ⟨h, h'⟩ | ⟨g, c, h, _⟩
        · exact ⟨_, _, by rw [h, h']; rfl, trivial, trivial⟩
        · exact ⟨_, _, h, trivial, trivial⟩
      subst hu
      have hown : ∀ z, (Value.slice ua vs.length uc).ownBlock = some z → w.heap.size ≤ z ∧ z < wr.heap.size := fun z hz => World.ownsRow.lt hvs z hz
      have HVS := Lib.hid hvs
      have HAL := Lib.hid hal
      have HBD := Lib.hid (show vs.length ≤ 1000000 by have := hal.1; rw [List.length_take] at this; omega)
      clear hx hss hvs hal
      have hal4 : Below wr.heap.size wr (wr.alloc (.cells #[.slice a0 n0 p0, .slice a1 n1 p1, .slice a2 n2 p2, .slice a3 n3 p3] 82)) := (Below.refl _ _).alloc (Nat.le_refl _) _
      go_wp2_with fail
      refine (box_any f _ _ _ _ wr _ HSS.out hal4 HLF.out).mono ?_
      rintro e w4 ⟨v4, rfl, ho4, hb4⟩
      have hw4 : Below wr.heap.size wr w4 := hal4.trans (hb4.mono hal4.size)
      have hz4 := hw4.size
      have hr4 := ho4.g.rws
      simp only [World.size_alloc] at hr4
      obtain ⟨va4, vc4, rfl, -, -⟩ := hr4.form
      have HR4 := Lib.hid (show Rws w.heap.size (hole w4 (Value.slice ua vs.length uc).ownBlock) _ f from Rws.mono (hr4.sub (Sb.into (fun z hz => by have := (hown z hz).2; omega))) (by omega))
      have HVS4 := Lib.hid (OwnSl.kept HVS.out hw4)
      have HAL4 := Lib.hid (HAL.out.mono (fun _ _ h => h.sub (Sb.hole hz4 (fun j _ j2 j3 => ⟨j3, hw4.block j j2⟩))))
      clear ho4 hb4 hr4
      go_wp2_with (at_builtin; refine wpList_append_lies _ rfl _ _ 32 rfl w.heap.size 40 i0 _ 1 24 Tryd.underlying32 hi hy0 hy1 hy2 rfl (by decide) _ vs.length (vs.flatMap enc1) rfl (World.ownsRow.alloc HVS4.out _) ⟨w4.heap.size, 0, none⟩ 1 1 (enc1 (.slice va4 f.length vc4)) rfl rfl (cellsNew w4 (enc1 (.slice va4 f.length vc4)) _) ?c2 (by decide) ?c3 ?c4 ?c5 _ rfl ?_)
      case c2 => simp [Value.oneCell']
      case c3 => have := HBD.out; simp only [maxLen]; omega
      case c4 => have := HBD.out; omega
      case c5 => simp; omega
      intro g8 cap8 w8 hown8 hgrow8 hlies8 hlt8
      have hown9 : OwnSl w.heap.size 40 1 enc1 w8 (.slice (some ⟨g8, 0, none⟩) (vs.length + 1) cap8) (vs ++ [.slice va4 f.length vc4]) := by unfold OwnSl; simpa using hown8
      have hF8 : BsO w.heap.size w8 (.slice (some ⟨g8, 0, none⟩) (vs.length + 1) cap8) (bs.take k ++ [f]) :=
        BsO.push (w := w4) (H := w4.heap.size + 1) HAL4.out HR4.out (grown_old hgrow8) hown9 (fun z hz => by cases hz; simpa using hlies8) (by omega)
      have hB8 : Below w.heap.size w w8 := belGrown ((hbr.trans (hw4.mono hzr)).alloc (by omega) _) (World.ownsRow.alloc HVS4.out _) hgrow8 (by simp; omega)
      have HF8 := Lib.hid (show BsO w.heap.size w8 (.slice (some ⟨g8, 0, none⟩) (vs.length + 1) cap8) (bs.take (k + 1)) by rw [List.take_add_one, HXX.out]; exact hF8)
      clear hown8 hgrow8 hlies8 hlt8 hown9 hF8
      go_wp2
      go_roundw
      case rel => exact ⟨k + 1, by omega, by go_num, HF8, hB8⟩
      case measure => simp [intOf]; omega
    · have hkn : k = n := by omega
      go_wp2
      go_ret
      have hR := HO.out
      rw [List.take_of_length_le (by rw [HN.out]; omega)] at hR
      exact ⟨_, rfl, hR, hbr⟩
def fbx (fs : List Ft) : List Bx := if fvalid fs then fboxes fs else []
set_option maxHeartbeats 1000000 in
theorem implFB_any {lo : Nat} (fs : List Ft) (v : Value) (w : World) (hs : Fts lo w v fs) (ht : Tab w) :
    Calls Tryd.prog 15 #[v] w fun e w' => ∃ v', e = .returned v' ∧ Bxs 0 w' v' (fbx fs) ∧ Below w.heap.size w w' := by
  cases hv : fvalid fs
  · go_enter Tryd.func15, Tryd.ntmps15
    go_wp2_with fail
    refine (implFV_b hs ht hv).mono ?_
    rintro e w1 ⟨rfl, hb1⟩
    go_wp2
    go_ret
    refine ⟨_, rfl, ?_, hb1⟩
    rw [fbx, hv]
    exact ⟨[], ⟨none, 0, rfl, by simp, by simp, fun k x h => by simp at h⟩, All2.nil⟩
  · have HV := Lib.hid hv
    go_enter Tryd.func15, Tryd.ntmps15
    go_wp2_with fail
    refine (implFV_b hs ht hv).mono ?_
    rintro e w1 ⟨rfl, hb1⟩
    have hs1 := hs.below hb1
    go_wp2_with fail
    refine (flatsOf_any fs v _ hs1 (fvalid_four HV.out) (fvalid_len HV.out)).mono ?_
    rintro e w2 ⟨v2, rfl, ho2, hb2⟩
    have hw2 := hb1.trans (hb2.mono hb1.size)
    clear hb2
    go_wp2_with fail
    refine (wheres_any fs _ _ ho2 (fvalid_len HV.out)).mono ?_
    rintro e w3 ⟨v3, rfl, ho3, hb3⟩
    have hw3 := hw2.trans (hb3.mono hw2.size)
    clear hb3
    go_wp2_with fail
    refine (boxesOf_any (fboxes fs) _ _ ho3 (by have := fvalid_len HV.out; simp [fboxes]; omega) (fun k b hb j xs hx => ?_)).mono ?_
    · simp only [fboxes, List.getElem?_map, Option.map_eq_some_iff] at hb
      obtain ⟨f, hf, rfl⟩ := hb
      have := bvalid_lens (fvalid_at HV.out hf) j xs hx
      omega
    · rintro e w4 ⟨v4, rfl, ho4, hb4⟩
      have hw4 := hw3.trans (hb4.mono hw3.size)
      have HO4 := Lib.hid ho4
      clear ho4
      go_wp2
      go_ret
      refine ⟨_, rfl, ?_, hw4⟩
      rw [fbx, HV.out]
      obtain ⟨vs, g1, g2⟩ := HO4.out.bxs
      exact ⟨vs, SlFr.mono g1 (Nat.zero_le _), g2.mono (fun _ _ h => h.mono (Nat.zero_le _))⟩
theorem jw_swap : ∀ (fs : List Ft) (k : Nat) (r : Bool) (p : Pk) (f g : Ft), fs[k]? = some f → fs[k + 1]? = some g → (bhas f.box p = true → bhas g.box p = true → f.acc = g.acc) → jw (swapAt fs k) r p = jw fs r p
  | [], k, r, p, f, g, h1, h2, h => by simp at h1
  | [x], k, r, p, f, g, h1, h2, h => by simp at h2
  | x :: y :: fs, 0, r, p, f, g, h1, h2, h => by
    simp at h1 h2
    subst h1 h2
    show jw (y :: x :: fs) r p = jw (x :: y :: fs) r p
    unfold jw
    unfold jw
    cases e1 : bhas x.box p <;> cases e2 : bhas y.box p <;> simp
    exact (h e1 e2).symm
  | x :: y :: fs, k + 1, r, p, f, g, h1, h2, h => by
    have h1' : (y :: fs)[k]? = some f := by simpa using h1
    have h2' : (y :: fs)[k + 1]? = some g := by simpa using h2
    have e : swapAt (x :: y :: fs) (k + 1) = x :: swapAt (y :: fs) k := by
      rw [swapAt_of h1 h2, swapAt_of h1' h2']
      rfl
    rw [e]
    conv => lhs; unfold jw
    conv => rhs; unfold jw
    rw [jw_swap (y :: fs) k r p f g h1' h2' h]
theorem sumTo_bound {α : Type} {f : α → Nat} {xs : List α} {C : Nat} (h : ∀ (k : Nat) x, xs[k]? = some x → f x ≤ C) : ∀ n, sumTo f xs n ≤ n * C
  | 0 => by simp [sumTo_zero]
  | n + 1 => by
    have ih := sumTo_bound (f := f) h n
    rw [Nat.add_mul]
    cases hx : xs[n]? with
    | none =>
      have e : sumTo f xs (n + 1) = sumTo f xs n := by
        have := List.getElem?_eq_none_iff.1 hx
        unfold sumTo
        rw [List.take_of_length_le this, List.take_of_length_le (by omega)]
      omega
    | some x =>
      have := h n x hx
      rw [sumTo_succ hx]
      omega
/-- Drawn rules are not large. -/
theorem drawn_ftN {fs : List Ft} (hl : fs.length ≤ 61) (hk : FtOk (fun n => n ≤ 4) fs) : ftN fs ≤ 1048576 := by
  have h1 : ∀ (k : Nat) f, fs[k]? = some f → bxN f.box ≤ 164 := fun k f hf => by
    obtain ⟨h4, h40⟩ := hk k f hf
    have := sumTo_bound (f := List.length) (xs := f.box) (C := 40) (fun j xs hx => h40 j xs hx) f.box.length
    have h5 : f.box.length * 40 ≤ 4 * 40 := Nat.mul_le_mul_right _ h4
    unfold bxN
    omega
  have := sumTo_bound (f := fun f => bxN f.box) (xs := fs) (C := 164) h1 fs.length
  have h5 : fs.length * 164 ≤ 61 * 164 := Nat.mul_le_mul_right _ hl
  unfold ftN
  omega
theorem swapAt_fvalid {fs : List Ft} (h : fvalid fs = true) (k : Nat) : fvalid (swapAt fs k) = true :=
  fvalid_sub h (by rw [swapAt_len]; exact Nat.le_refl _) (fun g hg => swapAt_mem hg)
theorem swap_back {fs : List Ft} {k : Nat} (h : cansw fs (k : Int) = true) : cansw (swapAt fs k) (k : Int) = true ∧ swapAt (swapAt fs k) k = fs := by
  obtain ⟨hv, h0, h1⟩ := cansw_range h
  obtain ⟨f, hf⟩ : ∃ f, fs[k]? = some f := ⟨_, List.getElem?_eq_getElem (by omega)⟩
  obtain ⟨g, hg⟩ : ∃ g, fs[k + 1]? = some g := ⟨_, List.getElem?_eq_getElem (by omega)⟩
  have e := swapAt_of hf hg
  have e1 : (swapAt fs k)[k]? = some g := by rw [e, List.getElem?_set_ne (by omega), List.getElem?_set_self (by omega)]
  have e2 : (swapAt fs k)[k + 1]? = some f := by rw [e, List.getElem?_set_self (by simp; omega)]
  refine ⟨?_, ?_⟩
  · unfold cansw at h ⊢
    simp only [Bool.and_eq_true, Bool.not_eq_true', Int.toNat_natCast] at h ⊢
    rw [tiedAt_of hf hg] at h
    rw [tiedAt_of e1 e2, tiedB_symm, swapAt_len]
    exact ⟨⟨swapAt_fvalid hv k, h.1.2⟩, h.2⟩
  · rw [swapAt_of e1 e2, e]
    refine List.ext_getElem? (fun j => ?_)
    by_cases j1 : j = k + 1
    · subst j1
      rw [List.getElem?_set_self (by simp; omega), hg]
    · rw [List.getElem?_set_ne (by omega)]
      by_cases j2 : j = k
      · subst j2
        rw [List.getElem?_set_self (by simp; omega), hf]
      · rw [List.getElem?_set_ne (by omega), List.getElem?_set_ne (by omega), List.getElem?_set_ne (by omega)]
theorem jfl_swap {fs : List Ft} {k : Nat} (h : cansw fs (k : Int) = true) (r : Bool) (p : Pk) : jfl (swapAt fs k) r p = jfl fs r p := by
  obtain ⟨hv, h0, h1⟩ := cansw_range h
  obtain ⟨f, hf⟩ : ∃ f, fs[k]? = some f := ⟨_, List.getElem?_eq_getElem (by omega)⟩
  obtain ⟨g, hg⟩ : ∃ g, fs[k + 1]? = some g := ⟨_, List.getElem?_eq_getElem (by omega)⟩
  have ht : tiedB f g = false := by
    unfold cansw at h
    simp only [Bool.and_eq_true, Bool.not_eq_true', Int.toNat_natCast] at h
    rw [tiedAt_of hf hg] at h
    exact h.2
  unfold jfl
  rw [swapAt_fvalid hv, hv, jw_swap fs k r p f g hf hg (tied_no (bvalid_four (fvalid_at hv hf)).1 (bvalid_four (fvalid_at hv hg)).1 ht p)]
theorem tcut_all (fs : List Ft) (r : Bool) : ∀ n, (∀ (i : Nat) g, tcut fs r n ≤ i → i < n → fs[i]? = some g → g.acc = r) ∧ (∀ (m : Nat) g, n ≤ fs.length → tcut fs r n = m + 1 → fs[m]? = some g → g.acc ≠ r)
  | 0 => ⟨fun i g _ h _ => by omega, fun m g _ h _ => by unfold tcut at h; omega⟩
  | n + 1 => by
    obtain ⟨h1, h2⟩ := tcut_all fs r n
    cases hf : fs[n]? with
    | none =>
      have e : tcut fs r (n + 1) = n + 1 := by unfold tcut; rw [hf]
      rw [e]
      exact ⟨fun i g a b _ => by omega, fun m g hl a hg => by have := List.getElem?_eq_none_iff.1 hf; omega⟩
    | some f =>
      by_cases ha : f.acc = r
      · rw [tcut_yes hf ha]
        refine ⟨fun i g a b hg => ?_, fun m g hl => h2 m g (by omega)⟩
        by_cases hi : i = n
        · subst hi; rw [hf] at hg; cases hg; exact ha
        · exact h1 i g a (by omega) hg
      · rw [tcut_no hf ha]
        refine ⟨fun i g a b _ => by omega, fun m g hl a hg => ?_⟩
        obtain rfl : n = m := by omega
        rw [hf] at hg
        cases hg
        exact ha
theorem jw_all {p : Pk} {r : Bool} : ∀ (fs : List Ft), (∀ (i : Nat) g, fs[i]? = some g → g.acc = r) → jw fs r p = r
  | [], _ => rfl
  | f :: fs, h => by
    unfold jw
    rw [jw_all fs (fun i g hg => h (i + 1) g (by simpa using hg)), h 0 f rfl]
    split <;> rfl
theorem jw_trim {p : Pk} {r : Bool} : ∀ (fs : List Ft) (m : Nat), (∀ (i : Nat) g, m ≤ i → fs[i]? = some g → g.acc = r) → jw (fs.take m) r p = jw fs r p
  | [], _, _ => by simp
  | f :: fs, 0, h => by
    rw [jw_all (f :: fs) (fun i g => h i g (by omega))]
    rfl
  | f :: fs, m + 1, h => by
    rw [List.take_succ_cons]
    unfold jw
    rw [jw_trim fs m (fun i g hi hg => h (i + 1) g (by omega) (by simpa using hg))]
theorem jfl_trim (fs : List Ft) (r : Bool) (p : Pk) (hv : fvalid fs = true) : jfl (ttrim fs r) r p = jfl fs r p := by
  unfold jfl
  rw [ttrim_valid, hv]
  unfold ttrim
  rw [hv]
  simp only [if_true]
  rw [jw_trim fs _ (fun i g hi hg => (tcut_all fs r fs.length).1 i g hi (List.getElem?_eq_some_iff.1 hg).1 hg)]
end Go.Proofs.YtojafgooobpoiaaDoor
