/- Common packets, meetings and cuts of boxes: plain laws and small walks. -/
import Derived.Test.YtfcbbahlhjdefaaDoorFmK
import Derived.Test.YtfcbbahlhjdefaaDoorBsA
namespace Go.Proofs.YtfcbbahlhjdefaaDoor
open Go.RowKit
def bempty (b : Bx) : Bool := b.any List.isEmpty
def bmeet (a b : Bx) : Bx := List.zipWith smeet a b
def fcommon (a b : List Sp) : Int × Bool := match smeet a b with
  | [] => (0, false)
  | s :: _ => (s.lo, true)
theorem smeet_none {a b : List Sp} (h : ∀ (p q : Nat) u v, a[p]? = some u → b[q]? = some v → meet1 u v = none) : smeet a b = [] := by
  unfold smeet
  rw [List.flatMap_eq_nil_iff]
  intro x hx
  rw [List.filterMap_eq_nil_iff]
  intro y hy
  obtain ⟨p, hp⟩ := List.getElem?_of_mem hx
  obtain ⟨q, hq⟩ := List.getElem?_of_mem hy
  exact h p q x y hp hq
theorem split_at {α : Type} {l : List α} {i : Nat} {x : α} (hx : l[i]? = some x) : l = l.take i ++ x :: l.drop (i + 1) := by
  have hi := (List.getElem?_eq_some_iff.1 hx)
  obtain ⟨h1, h2⟩ := hi
  rw [← h2, ← List.drop_eq_getElem_cons h1, List.take_append_drop]
theorem get_take {α : Type} {l : List α} {i p : Nat} {x : α} (h : (l.take i)[p]? = some x) : p < i ∧ l[p]? = some x := by
  rw [List.getElem?_take] at h
  split at h
  · exact ⟨by assumption, h⟩
  · cases h
theorem smeet_first {a b : List Sp} {i j : Nat} {x y s : Sp} (hx : a[i]? = some x) (hy : b[j]? = some y) (hs : meet1 x y = some s)
    (h : ∀ (p q : Nat) u v, (p < i ∨ q < j) → a[p]? = some u → b[q]? = some v → meet1 u v = none) : ∃ tl, smeet a b = s :: tl := by
  have h1 : smeet (a.take i) b = [] := smeet_none (fun p q u v hp hq => h p q u v (.inl (get_take hp).1) (get_take hp).2 hq)
  have h2 : (b.take j).filterMap (meet1 x) = [] := by
    rw [List.filterMap_eq_nil_iff]
    intro y' hy'
    obtain ⟨q, hq⟩ := List.getElem?_of_mem hy'
    exact h i q x y' (.inr (get_take hq).1) hx (get_take hq).2
  have h3 : b.filterMap (meet1 x) = s :: (b.drop (j + 1)).filterMap (meet1 x) := by
    conv => lhs; rw [split_at hy]
    rw [List.filterMap_append, h2, List.nil_append, List.filterMap_cons, hs]
  refine ⟨(b.drop (j + 1)).filterMap (meet1 x) ++ smeet (a.drop (i + 1)) b, ?_⟩
  conv => lhs; rw [split_at hx]
  unfold smeet at h1 ⊢
  rw [List.flatMap_append, h1, List.nil_append, List.flatMap_cons, h3, List.cons_append]
theorem sgood_get {h : Int} : ∀ {xs : List Sp} {m : Int} {i : Nat} {x : Sp}, sgood h m xs = true → xs[i]? = some x → m ≤ x.lo ∧ x.lo ≤ x.hi ∧ x.hi ≤ h
  | [], _, _, _, _, hx => by simp at hx
  | s :: xs, m, 0, x, hg, hx => by
    rw [sgood_cons] at hg
    simp at hx
    subst hx
    exact ⟨hg.1, hg.2.1, hg.2.2.1⟩
  | s :: xs, m, i + 1, x, hg, hx => by
    rw [sgood_cons] at hg
    have := sgood_get hg.2.2.2 (by simpa using hx)
    omega
theorem sgood_lt {h : Int} : ∀ {xs : List Sp} {m : Int} {i p : Nat} {x u : Sp}, sgood h m xs = true → xs[i]? = some x → xs[p]? = some u → i < p → x.hi + 2 ≤ u.lo
  | [], _, _, _, _, _, _, hx, _, _ => by simp at hx
  | s :: xs, m, _, 0, _, _, _, _, _, hlt => by omega
  | s :: xs, m, 0, p + 1, x, u, hg, hx, hu, _ => by
    rw [sgood_cons] at hg
    simp at hx
    subst hx
    exact (sgood_get hg.2.2.2 (by simpa using hu)).1
  | s :: xs, m, i + 1, p + 1, x, u, hg, hx, hu, hlt => by
    rw [sgood_cons] at hg
    exact sgood_lt hg.2.2.2 (by simpa using hx) (by simpa using hu) (by omega)
/-- No common numbers before the two places. -/
def FC (a b : List Sp) (i j : Nat) : Prop := ∀ (p q : Nat) u v, (p < i ∨ q < j) → a[p]? = some u → b[q]? = some v → meet1 u v = none
theorem meet1_no {u v : Sp} (h : u.hi < v.lo ∨ v.hi < u.lo) : meet1 u v = none := by
  unfold meet1
  rw [if_neg (by omega)]
theorem FC.left {a b : List Sp} {i j : Nat} {x y : Sp} {h m : Int} (hf : FC a b i j) (hb : sgood h m b = true) (hx : a[i]? = some x) (hy : b[j]? = some y) (hm : meet1 x y = none) (hlt : x.hi < y.hi) : FC a b (i + 1) j := by
  intro p q u v hpq hu hv
  by_cases h1 : p < i ∨ q < j
  · exact hf p q u v h1 hu hv
  · have hp : p = i := by omega
    subst hp
    rw [hx] at hu
    cases hu
    by_cases h2 : q = j
    · subst h2; rw [hy] at hv; cases hv; exact hm
    · exact meet1_no (.inl (by have := sgood_lt hb hy hv (by omega); omega))
theorem FC.right {a b : List Sp} {i j : Nat} {x y : Sp} {h m : Int} (hf : FC a b i j) (ha : sgood h m a = true) (hx : a[i]? = some x) (hy : b[j]? = some y) (hm : meet1 x y = none) (hlt : ¬ x.hi < y.hi) : FC a b i (j + 1) := by
  intro p q u v hpq hu hv
  by_cases h1 : p < i ∨ q < j
  · exact hf p q u v h1 hu hv
  · have hq : q = j := by omega
    subst hq
    rw [hy] at hv
    cases hv
    by_cases h2 : p = i
    · subst h2; rw [hx] at hu; cases hu; exact hm
    · exact meet1_no (.inr (by have := sgood_lt ha hx hu (by omega); omega))
theorem FC.none {a b : List Sp} {i j : Nat} (hf : FC a b i j) (h : a.length ≤ i ∨ b.length ≤ j) : fcommon a b = (0, false) := by
  unfold fcommon
  rw [smeet_none (fun p q u v hu hv => hf p q u v (by
    have h1 := (List.getElem?_eq_some_iff.1 hu).1
    have h2 := (List.getElem?_eq_some_iff.1 hv).1
    omega) hu hv)]
theorem FC.hit {a b : List Sp} {i j : Nat} {x y s : Sp} (hf : FC a b i j) (hx : a[i]? = some x) (hy : b[j]? = some y) (hs : meet1 x y = some s) : fcommon a b = (s.lo, true) := by
  unfold fcommon
  obtain ⟨tl, h⟩ := smeet_first hx hy hs hf
  rw [h]
theorem FC.zero (a b : List Sp) : FC a b 0 0 := fun p q u v h => by omega
theorem fcommon_emp {a b : List Sp} : (fcommon a b).2 = !(smeet a b).isEmpty := by
  unfold fcommon
  cases smeet a b <;> rfl
/-- All sets below k have common numbers. -/
def TC (a b : Bx) (k : Nat) : Prop := ∀ (i : Nat) x y, i < k → a[i]? = some x → b[i]? = some y → (smeet x y).isEmpty = false
theorem TC.step {a b : Bx} {k : Nat} {x y : List Sp} (h : TC a b k) (hx : a[k]? = some x) (hy : b[k]? = some y) (he : (fcommon x y).2 = true) : TC a b (k + 1) := by
  intro i u v hi hu hv
  by_cases e : i = k
  · subst e; rw [hx] at hu; rw [hy] at hv; cases hu; cases hv; rw [fcommon_emp] at he; simpa using he
  · exact h i u v (by omega) hu hv
theorem bmeet_at {a b : Bx} {i : Nat} {z : List Sp} (h : (bmeet a b)[i]? = some z) : ∃ x y, a[i]? = some x ∧ b[i]? = some y ∧ smeet x y = z := by
  unfold bmeet at h
  rw [List.getElem?_zipWith] at h
  split at h
  · rename_i x y hx hy; cases h; exact ⟨_, _, hx, hy, rfl⟩
  · cases h
theorem bmeet_get {a b : Bx} {i : Nat} {x y : List Sp} (hx : a[i]? = some x) (hy : b[i]? = some y) : (bmeet a b)[i]? = some (smeet x y) := by
  unfold bmeet
  rw [List.getElem?_zipWith, hx, hy]
theorem TC.no {a b : Bx} {k : Nat} {x y : List Sp} (hx : a[k]? = some x) (hy : b[k]? = some y) (he : (fcommon x y).2 = false) : bempty (bmeet a b) = true := by
  rw [fcommon_emp] at he
  unfold bempty
  rw [List.any_eq_true]
  exact ⟨_, List.mem_of_getElem? (bmeet_get hx hy), by simpa using he⟩
theorem TC.yes {a b : Bx} {k : Nat} (h : TC a b k) (hk : a.length ≤ k) : bempty (bmeet a b) = false := by
  unfold bempty
  rw [List.any_eq_false]
  intro z hz
  obtain ⟨i, hi⟩ := List.getElem?_of_mem hz
  obtain ⟨x, y, hx, hy, rfl⟩ := bmeet_at hi
  have := h i x y (by have := (List.getElem?_eq_some_iff.1 hx).1; omega) hx hy
  simpa using this
/-- Whether rules number n and the next one can be exchanged. -/
def tiedB (f g : Ft) : Bool := !decide (f.acc = g.acc) && !bempty (bmeet f.box g.box)
def tiedAt (fs : List Ft) (i j : Nat) : Bool := match fs[i]?, fs[j]? with
  | some f, some g => tiedB f g
  | _, _ => false
theorem shas_none {xs : List Sp} {n : Int} (h : ∀ (k : Nat) x, xs[k]? = some x → inB n x.lo x.hi = false) : shas xs n = false := by
  unfold shas
  rw [List.any_eq_false]
  intro x hx
  obtain ⟨k, hk⟩ := List.getElem?_of_mem hx
  simpa using h k x hk
theorem inB_no {n lo hi : Int} (h : n < lo ∨ hi < n) : inB n lo hi = false := by
  cases e : inB n lo hi
  · rfl
  · rw [inB_iff] at e; omega
/-- Whether number c is in the set of which the ranges before i are over, and how long that stays so. -/
def str (a : List Sp) (i : Nat) (c t : Int) : Bool × Int := match a[i]? with
  | none => (false, t)
  | some x => if c < x.lo then (false, x.lo - 1) else (true, x.hi)
def Past (a : List Sp) (i : Nat) (c : Int) : Prop := ∀ (k : Nat) x, k < i → a[k]? = some x → x.hi < c
theorem Past.zero (a : List Sp) (c : Int) : Past a 0 c := fun k x h => by omega
theorem Past.step {a : List Sp} {i : Nat} {c : Int} {x : Sp} (h : Past a i c) (hx : a[i]? = some x) (hl : x.hi < c) : Past a (i + 1) c := fun k y hk hy => by
  by_cases e : k = i
  · subst e; rw [hx] at hy; cases hy; exact hl
  · exact h k y (by omega) hy
theorem Past.mono {a : List Sp} {i : Nat} {c c' : Int} (h : Past a i c) (hc : c ≤ c') : Past a i c' := fun k x hk hx => by
  have := h k x hk hx
  omega
theorem str_spec {a : List Sp} {i : Nat} {c t m : Int} (hg : sgood t m a = true) (hp : Past a i c) (hq : ∀ x, a[i]? = some x → c ≤ x.hi) (hc : c ≤ t) :
    c ≤ (str a i c t).2 ∧ (str a i c t).2 ≤ t ∧ ∀ n, c ≤ n → n ≤ (str a i c t).2 → shas a n = (str a i c t).1 := by
  unfold str
  cases hx : a[i]? with
  | none =>
    refine ⟨hc, Int.le_refl _, fun n h1 h2 => shas_none (fun k x hk => inB_no (.inr ?_))⟩
    have e1 := List.getElem?_eq_none_iff.1 hx
    have e2 := (List.getElem?_eq_some_iff.1 hk).1
    have := hp k x (by omega) hk
    omega
  | some x =>
    have g := sgood_get hg hx
    by_cases hlt : c < x.lo
    · simp only [if_pos hlt]
      refine ⟨by omega, by omega, fun n h1 h2 => shas_none (fun k y hk => inB_no ?_)⟩
      by_cases hk' : k < i
      · exact .inr (by have := hp k y hk' hk; omega)
      · by_cases e : k = i
        · subst e; rw [hx] at hk; cases hk; exact .inl (by omega)
        · exact .inl (by have := sgood_lt hg hx hk (by omega); omega)
    · simp only [if_neg hlt]
      exact ⟨hq x hx, g.2.2, fun n h1 h2 => shas_hit hx (inB_iff.2 ⟨by omega, h2⟩)⟩
theorem sgood_left {h : Int} : ∀ {m : Int} {xs ys : List Sp}, sgood h m (xs ++ ys) = true → sgood h m xs = true
  | _, [], _, _ => rfl
  | m, x :: xs, ys, hg => by
    rw [List.cons_append, sgood_cons] at hg
    rw [sgood_cons]
    exact ⟨hg.1, hg.2.1, hg.2.2.1, sgood_left hg.2.2.2⟩
theorem sgood_snoc {h h' : Int} {s : Sp} : ∀ {m : Int} {xs : List Sp}, sgood h m xs = true → m ≤ s.lo → s.lo ≤ s.hi → s.hi ≤ h' → h ≤ h' → (∀ (k : Nat) x, k + 1 = xs.length → xs[k]? = some x → x.hi + 2 ≤ s.lo) → sgood h' m (xs ++ [s]) = true
  | m, [], _, h1, h2, h3, _, _ => by rw [List.nil_append, sgood_cons]; exact ⟨h1, h2, h3, rfl⟩
  | m, x :: xs, hg, h1, h2, h3, h4, hl => by
    rw [sgood_cons] at hg
    rw [List.cons_append, sgood_cons]
    refine ⟨hg.1, hg.2.1, by omega, sgood_snoc hg.2.2.2 ?_ h2 h3 h4 (fun k y hk hy => hl (k + 1) y (by simp; omega) (by simpa using hy))⟩
    cases xs with
    | nil => exact hl 0 x rfl rfl
    | cons z zs =>
      obtain ⟨y, hy⟩ : ∃ y, (z :: zs)[zs.length]? = some y := ⟨_, List.getElem?_eq_getElem (by simp)⟩
      have g := sgood_get hg.2.2.2 hy
      have g2 := hl (zs.length + 1) y (by simp) (by simpa using hy)
      omega
theorem sgood_len {h : Int} : ∀ {m : Int} {xs : List Sp}, sgood h m xs = true → (xs.length : Int) = 0 ∨ 2 * (xs.length : Int) ≤ h - m + 2
  | m, [], _ => .inl rfl
  | m, x :: xs, hg => by
    rw [sgood_cons] at hg
    have := sgood_len hg.2.2.2
    right
    simp only [List.length_cons]
    omega
/-- What the sweep has found before number c. -/
def SW (K : Bool → Bool → Bool) (a b : List Sp) (c : Int) (ys : List Sp) : Prop := sgood (c - 1) 0 ys = true ∧ ∀ n, shas ys n = (inB n 0 (c - 1) && K (shas a n) (shas b n))
theorem SW.nil (K : Bool → Bool → Bool) (a b : List Sp) : SW K a b 0 [] := ⟨rfl, fun n => by
  rw [show inB n 0 (0 - 1) = false from by cases e : inB n 0 (0 - 1); rfl; rw [inB_iff] at e; omega]; rfl⟩
theorem inB_cut {n c e : Int} (h0 : 0 ≤ c) (h1 : c ≤ e) : inB n 0 (e + 1 - 1) = (inB n 0 (c - 1) || inB n c e) := by
  rw [Bool.eq_iff_iff, Bool.or_eq_true, inB_iff, inB_iff, inB_iff]
  omega
theorem SW.skip {K : Bool → Bool → Bool} {a b : List Sp} {c e : Int} {ys : List Sp} (h : SW K a b c ys) (h0 : 0 ≤ c) (h1 : c ≤ e) (hk : ∀ n, c ≤ n → n ≤ e → K (shas a n) (shas b n) = false) : SW K a b (e + 1) ys := by
  refine ⟨sgood_top h.1 (by omega), fun n => ?_⟩
  rw [h.2, inB_cut h0 h1]
  cases e1 : inB n 0 (c - 1)
  · cases e2 : inB n c e
    · rfl
    · rw [inB_iff] at e2
      rw [hk n e2.1 e2.2]
      rfl
  · rfl
theorem SW.has {K : Bool → Bool → Bool} {a b : List Sp} {c e : Int} {ys : List Sp} (h : SW K a b c ys) (h0 : 0 ≤ c) (h1 : c ≤ e) (hk : ∀ n, c ≤ n → n ≤ e → K (shas a n) (shas b n) = true) (n : Int) : (shas ys n || inB n c e) = (inB n 0 (e + 1 - 1) && K (shas a n) (shas b n)) := by
  rw [h.2, inB_cut h0 h1]
  cases e1 : inB n 0 (c - 1)
  · cases e2 : inB n c e
    · rfl
    · rw [inB_iff] at e2
      rw [hk n e2.1 e2.2]
      rfl
  · cases e2 : inB n c e
    · simp
    · rw [inB_iff] at e1 e2; omega
theorem SW.push {K : Bool → Bool → Bool} {a b : List Sp} {c e : Int} {ys : List Sp} (h : SW K a b c ys) (h0 : 0 ≤ c) (h1 : c ≤ e) (hk : ∀ n, c ≤ n → n ≤ e → K (shas a n) (shas b n) = true)
    (hl : ∀ (k : Nat) x, k + 1 = ys.length → ys[k]? = some x → x.hi + 1 ≠ c) : SW K a b (e + 1) (ys ++ [⟨c, e⟩]) := by
  refine ⟨sgood_snoc h.1 h0 h1 (by simp only; omega) (by omega) (fun k x hk hx => ?_), fun n => ?_⟩
  · have g := sgood_get h.1 hx
    have := hl k x hk hx
    simp only
    omega
  · rw [shas_append, ← h.has h0 h1 hk n]
    simp [shas]
theorem set_last {α : Type} {ys : List α} {k : Nat} {y : α} (hk : k + 1 = ys.length) : ys.set k y = ys.take k ++ [y] := by
  rw [List.set_eq_take_append_cons_drop, if_pos (by omega), List.drop_of_length_le (by omega)]
theorem take_last {α : Type} {ys : List α} {k : Nat} {s : α} (hk : k + 1 = ys.length) (hs : ys[k]? = some s) : ys = ys.take k ++ [s] := by
  conv => lhs; rw [← List.take_length (l := ys), ← hk, List.take_add_one, hs]
  rfl
theorem SW.grow {K : Bool → Bool → Bool} {a b : List Sp} {c e : Int} {ys : List Sp} {k : Nat} {s : Sp} (h : SW K a b c ys) (h0 : 0 ≤ c) (h1 : c ≤ e) (hk : ∀ n, c ≤ n → n ≤ e → K (shas a n) (shas b n) = true)
    (hl : k + 1 = ys.length) (hs : ys[k]? = some s) (he : s.hi + 1 = c) : SW K a b (e + 1) (ys.set k ⟨s.lo, e⟩) := by
  have g := sgood_get h.1 hs
  have ht := take_last hl hs
  have hgt : sgood (c - 1) 0 (ys.take k) = true := by have := h.1; rw [ht] at this; exact sgood_left this
  rw [set_last hl]
  refine ⟨sgood_snoc hgt (by simp only; omega) (by simp only; omega) (by simp only; omega) (by omega) (fun j x hj hx => ?_), fun n => ?_⟩
  · rw [List.length_take] at hj
    rw [List.getElem?_take_of_lt (show j < k by omega)] at hx
    have := sgood_lt h.1 hx hs (show j < k by omega)
    simpa using this
  · rw [shas_append, ← h.has h0 h1 hk n]
    conv => rhs; rw [ht, shas_append]
    rw [Bool.or_assoc]
    congr 1
    simp only [shas, List.any_cons, List.any_nil, Bool.or_false]
    rw [Bool.eq_iff_iff, Bool.or_eq_true, inB_iff, inB_iff, inB_iff]
    omega
def kMeet (p q : Bool) : Bool := p && q
def kLess (p q : Bool) : Bool := p && !q
theorem SW.meet {a b ys : List Sp} {t : Int} (h : SW kMeet a b (t + 1) ys) (ha : sgood t 0 a = true) (hb : sgood t 0 b = true) : ys = smeet a b := by
  refine sgood_ext h.1 (smeet_good hb ha) (fun n => ?_)
  rw [h.2, smeet_has]
  unfold kMeet
  cases e : shas a n
  · simp
  · have := shas_ge ha e
    rw [show inB n 0 (t + 1 - 1) = true from inB_iff.2 ⟨by omega, by omega⟩]
    simp
theorem SW.less {a b ys : List Sp} {t : Int} (h : SW kLess a b (t + 1) ys) (ha : sgood t 0 a = true) (hb : sgood t 0 b = true) : ys = smeet a (sother t 0 b) := by
  refine sgood_ext h.1 (smeet_good (sother_good hb) ha) (fun n => ?_)
  rw [h.2, smeet_has, sother_has n hb]
  unfold kLess
  cases e : shas a n
  · simp
  · have := shas_ge ha e
    rw [show inB n 0 (t + 1 - 1) = true from inB_iff.2 ⟨by omega, by omega⟩, show inB n 0 t = true from inB_iff.2 ⟨by omega, by omega⟩]
    all_goals simp
set_option maxHeartbeats 2000000 in
theorem firstCommon_any {lo lo' : Nat} {h1 m1 h2 m2 : Int} (xs ys : List Sp) (u v : Value) (w : World) (hs : Sps lo w u xs) (ht : Sps lo' w v ys) (gx : sgood h1 m1 xs = true) (gy : sgood h2 m2 ys = true) :
    Calls Tryd.prog 72 #[u, v] w fun e w' => e = .returned (.tuple #[.int .i64 (fcommon xs ys).1, .bool (fcommon xs ys).2]) ∧ Below w.heap.size w w' := by
  obtain ⟨a, cap, rfl, hlc, hcm⟩ := hs.form
  obtain ⟨a', cap', rfl, hlc', hcm'⟩ := ht.form
  unfold maxLen at hcm hcm'
  generalize hn : xs.length = n at *
  generalize hm : ys.length = m at *
  have HN := Lib.hid hn
  have HM := Lib.hid hm
  have GX := Lib.hid gx
  have GY := Lib.hid gy
  clear hn hm gx gy
  go_enter Tryd.func72, Tryd.ntmps72
  go_wp2_with fail
  go_loopw [6, 7, 8] (fun i j _ wr => ∃ p q : Nat, p ≤ n ∧ q ≤ m ∧ i = .int .i64 p ∧ j = .int .i64 q ∧ Hid (FC xs ys p q) ∧ Below w.heap.size w wr) (fun i j _ _ => n + m - ((intOf i).toNat + (intOf j).toNat))
  case atStart => exact ⟨0, 0, by omega, by omega, rfl, rfl, Lib.hid (FC.zero _ _), Below.refl _ _⟩
  case round =>
    obtain ⟨p, q, hp, hq, rfl, rfl, HF, hbr⟩ := hrel
    have hzr := hbr.size
    have i2 : (0 : Int) ≤ (p : Int) := by omega
    have i4 : (0 : Int) ≤ (q : Int) := by omega
    by_cases hlp : p < n
    · have i1 : (p : Int) < (n : Int) := by omega
      by_cases hlq : q < m
      · have i3 : (q : Int) < (m : Int) := by omega
        obtain ⟨b, o, f1, f2, rfl, hbl, hx1, c0, c1⟩ := (hs.below hbr).at (show p < xs.length by rw [HN.out]; exact hlp)
        obtain ⟨b', o', g1, g2, rfl, hbl', hx2, d0, d1⟩ := (ht.below hbr).at (show q < ys.length by rw [HM.out]; exact hlq)
        have HX := Lib.hid hx1
        have HY := Lib.hid hx2
        clear hx1 hx2
        go_wp2_with fail
        refine wp_region_over (by kernel_rfl) (by kernel_rfl) (fun ov => ?_); have ov0 := fun x => ov x (b) (by (try simp) <;> omega); have ov1 := fun x => ov x (b') (by (try simp) <;> omega); clear ov; (iterate 9 (iterate 8 (try go_big_quiet_step (first | fail)))); refine wpQuiet_nil ?_; intro w8 hw9; have hb_w8 := below_over hw9; clear hw9 ov0 ov1
        have hz8 := hb_w8.size
        have c0' := (hb_w8.cell (p := ⟨b, o + p * 2, none⟩) hbl).trans c0; have c1' := (hb_w8.cell (p := ⟨b, o + p * 2 + 1, none⟩) hbl).trans c1
        have d0' := (hb_w8.cell (p := ⟨b', o' + q * 2, none⟩) hbl').trans d0; have d1' := (hb_w8.cell (p := ⟨b', o' + q * 2 + 1, none⟩) hbl').trans d1
        have hbl8 : b < w8.heap.size := by omega
        have hbl8' : b' < w8.heap.size := by omega
        have hw8 : Below w.heap.size w w8 := hbr.trans (hb_w8.mono hzr)
        clear hb_w8 c0 c1 d0 d1
        obtain ⟨mx, hmx⟩ : ∃ mx, (if f1 < g1 then g1 else f1) = mx := ⟨_, rfl⟩
        rw [hmx]
        have HMX := Lib.hid (show max f1 g1 = mx by rw [← hmx, Int.max_def]; split <;> split <;> omega)
        clear hmx
        go_wp2_with fail
        refine wp_region_over (by kernel_rfl) (by kernel_rfl) (fun ov => ?_); have ov0 := fun x => ov x (b) (by (try simp) <;> omega); have ov1 := fun x => ov x (b') (by (try simp) <;> omega); clear ov; (iterate 9 (iterate 8 (try go_big_quiet_step (first | fail)))); refine wpQuiet_nil ?_; intro w9 hw9; have hb_w9 := below_over hw9; clear hw9 ov0 ov1
        have hz9 := hb_w9.size
        have c0 := (hb_w9.cell (p := ⟨b, o + p * 2, none⟩) hbl8).trans c0'; have c1 := (hb_w9.cell (p := ⟨b, o + p * 2 + 1, none⟩) hbl8).trans c1'
        have d0 := (hb_w9.cell (p := ⟨b', o' + q * 2, none⟩) hbl8').trans d0'; have d1 := (hb_w9.cell (p := ⟨b', o' + q * 2 + 1, none⟩) hbl8').trans d1'
        have hbl9 : b < w9.heap.size := by omega
        have hbl9' : b' < w9.heap.size := by omega
        have hw9 : Below w.heap.size w w9 := hw8.trans (hb_w9.mono hw8.size)
        clear hb_w9 c0' c1' d0' d1'
        obtain ⟨mn, hmn⟩ : ∃ mn, (if g2 < f2 then g2 else f2) = mn := ⟨_, rfl⟩
        rw [hmn]
        have HMN := Lib.hid (show min f2 g2 = mn by rw [← hmn, Int.min_def]; split <;> split <;> omega)
        clear hmn
        by_cases hmt : mx ≤ mn
        · have HE := Lib.hid (HF.out.hit HX.out HY.out (show meet1 ⟨f1, f2⟩ ⟨g1, g2⟩ = some ⟨mx, mn⟩ by rw [meet1, HMX.out, HMN.out, if_pos hmt]))
          go_wp2
          go_ret2
          exact ⟨by rw [HE.out]; rfl, hw9⟩
        · have HM1 := Lib.hid (show meet1 ⟨f1, f2⟩ ⟨g1, g2⟩ = none by rw [meet1, HMX.out, HMN.out, if_neg hmt])
          go_wp2_with fail
          refine wp_region_over (by kernel_rfl) (by kernel_rfl) (fun ov => ?_); have ov0 := fun x => ov x (b) (by (try simp) <;> omega); have ov1 := fun x => ov x (b') (by (try simp) <;> omega); clear ov; (iterate 9 (iterate 8 (try go_big_quiet_step (first | fail)))); refine wpQuiet_nil ?_; intro w7 hw9; have hb_w7 := below_over hw9; clear hw9 ov0 ov1
          have hw7 : Below w.heap.size w w7 := hw9.trans (hb_w7.mono hw9.size)
          clear hb_w7
          by_cases hfl : f2 < g2
          · have HE := Lib.hid (HF.out.left GY.out HX.out HY.out HM1.out hfl)
            go_wp2
            go_roundw
            case rel => exact ⟨p + 1, q, by omega, by omega, by go_num, rfl, HE, hw7⟩
            case measure => simp [intOf]; omega
          · have HE := Lib.hid (HF.out.right GX.out HX.out HY.out HM1.out hfl)
            go_wp2
            go_roundw
            case rel => exact ⟨p, q + 1, by omega, by omega, rfl, by go_num, HE, hw7⟩
            case measure => simp [intOf]; omega
      · have HE := Lib.hid (HF.out.none (.inr (show ys.length ≤ q by rw [HM.out]; omega)))
        go_wp2
        go_ret2
        exact ⟨by rw [HE.out]; rfl, hbr⟩
    · have HE := Lib.hid (HF.out.none (.inl (show xs.length ≤ p by rw [HN.out]; omega)))
      go_wp2
      go_ret2
      exact ⟨by rw [HE.out]; rfl, hbr⟩
theorem bempty_yes {b : Bx} {k : Nat} {xs : List Sp} (hx : b[k]? = some xs) (h : xs.isEmpty = true) : bempty b = true := by
  unfold bempty
  rw [List.any_eq_true]
  exact ⟨_, List.mem_of_getElem? hx, h⟩
theorem bempty_no {b : Bx} (h : ∀ (j : Nat) xs, b[j]? = some xs → xs.isEmpty = false) : bempty b = false := by
  unfold bempty
  rw [List.any_eq_false]
  intro z hz
  obtain ⟨i, hi⟩ := List.getElem?_of_mem hz
  simpa using h i z hi
/-- The value that firstCommon returns, if it returns true. -/
def fcv (a b : Bx) (i : Nat) : Int := match a[i]?, b[i]? with
  | some x, some y => (fcommon x y).1
  | _, _ => 0
theorem fcv_at {a b : Bx} {i : Nat} {x y : List Sp} (hx : a[i]? = some x) (hy : b[i]? = some y) : fcv a b i = (fcommon x y).1 := by
  unfold fcv
  rw [hx, hy]
def bfst (a b : Bx) : Value := if bempty (bmeet a b) then .agg #[.int .i64 0, .int .i64 0, .int .i64 0, .int .i64 0] else .agg #[.int .i64 (fcv a b 0), .int .i64 (fcv a b 1), .int .i64 (fcv a b 2), .int .i64 (fcv a b 3)]
theorem firstCommon_b {lo lo' : Nat} {h1 m1 h2 m2 : Int} {xs ys : List Sp} {u v : Value} {w : World} {p : Int} {r : Bool} (hs : Sps lo w u xs) (ht : Sps lo' w v ys) (gx : sgood h1 m1 xs = true) (gy : sgood h2 m2 ys = true) (h1' : (fcommon xs ys).1 = p) (h2' : (fcommon xs ys).2 = r) :
    Calls Tryd.prog 72 #[u, v] w fun e w' => e = .returned (.tuple #[.int .i64 p, .bool r]) ∧ Below w.heap.size w w' := by
  subst h1' h2'
  exact firstCommon_any xs ys u v w hs ht gx gy
theorem svalid_good {xs : List Sp} {t : Int} (h : svalid xs t = true) : sgood t 0 xs = true := by
  unfold svalid at h
  rw [Bool.and_eq_true] at h
  exact h.2
theorem alloc4_cells (w : World) (A B C D : Array Value) (t1 t2 t3 t4 : Nat) :
    (∀ k, ((((w.alloc (.cells A t1)).alloc (.cells B t2)).alloc (.cells C t3)).alloc (.cells D t4)).cell? ⟨w.heap.size, k, none⟩ = A[k]?) ∧ (∀ k, ((((w.alloc (.cells A t1)).alloc (.cells B t2)).alloc (.cells C t3)).alloc (.cells D t4)).cell? ⟨w.heap.size + 1, k, none⟩ = B[k]?) ∧
    (∀ k, ((((w.alloc (.cells A t1)).alloc (.cells B t2)).alloc (.cells C t3)).alloc (.cells D t4)).cell? ⟨w.heap.size + 1 + 1, k, none⟩ = C[k]? ∧ ((((w.alloc (.cells A t1)).alloc (.cells B t2)).alloc (.cells C t3)).alloc (.cells D t4)).frozen? ⟨w.heap.size + 1 + 1, k, none⟩ = false) ∧
    (∀ k, ((((w.alloc (.cells A t1)).alloc (.cells B t2)).alloc (.cells C t3)).alloc (.cells D t4)).cell? ⟨w.heap.size + 1 + 1 + 1, k, none⟩ = D[k]? ∧ ((((w.alloc (.cells A t1)).alloc (.cells B t2)).alloc (.cells C t3)).alloc (.cells D t4)).frozen? ⟨w.heap.size + 1 + 1 + 1, k, none⟩ = false) := by
  refine ⟨fun k => ?_, fun k => ?_, fun k => ⟨?_, ?_⟩, fun k => ⟨?_, ?_⟩⟩ <;> go_simp
set_option maxHeartbeats 400000 in
theorem packetOf_any (a b c d : Int) (w : World) :
    Calls Tryd.prog 73 #[.agg #[.int .i64 a, .int .i64 b, .int .i64 c, .int .i64 d]] w fun e w' => e = .returned (.agg #[.int .i64 a, .int .i64 b, .int .i64 c, .int .i64 d]) ∧ Below w.heap.size w w' := by
  go_enter Tryd.func73, Tryd.ntmps73
  go_wp2
  exact bodyPost_ret (v := .agg #[.int .i64 a, .int .i64 b, .int .i64 c, .int .i64 d]) (by simp [results, Tryd.results73, go_sem]) rfl ⟨rfl, by (repeat' (first | with_reducible exact Below.refl _ _ | with_reducible assumption | with_reducible refine Below.setCell ?_ ?_ _ | with_reducible refine Below.alloc ?_ ?_ _ | with_reducible refine Below.drew ?_ | with_reducible refine belDrewN ?_ _ | with_reducible refine Below.trans ?_ (Below.mono (by assumption) ?_) | omega | (simp; omega) | (simp; done)))⟩
set_option maxHeartbeats 4000000 in
theorem fstCommon_any {lo lo' : Nat} (a b : Bx) (v0 v1 v2 v3 u0 u1 u2 u3 : Value) (w : World) (hs : All2 (Sps lo w) [v0, v1, v2, v3] a) (ht : All2 (Sps lo' w) [u0, u1, u2, u3] b) (ha : bvalid a = true) (hb : bvalid b = true) :
    Calls Tryd.prog 66 #[.agg #[v0, v1, v2, v3], .agg #[u0, u1, u2, u3]] w fun e w' => e = .returned (.tuple #[bfst a b, .bool (!bempty (bmeet a b))]) ∧ Below w.heap.size w w' := by
  obtain ⟨W, hW⟩ : ∃ W, ((((w.alloc (.cells #[v0, v1, v2, v3] 84)).alloc (.cells #[u0, u1, u2, u3] 84)).alloc (.cells #[.int .i64 0, .int .i64 0, .int .i64 0, .int .i64 0] 27)).alloc (.cells #[.int .i64 0, .int .i64 0, .int .i64 0, .int .i64 0] 73)) = W := ⟨_, rfl⟩
  have hal : Below w.heap.size w W := by rw [← hW]; (repeat' (first | with_reducible exact Below.refl _ _ | with_reducible assumption | with_reducible refine Below.setCell ?_ ?_ _ | with_reducible refine Below.alloc ?_ ?_ _ | with_reducible refine Below.drew ?_ | with_reducible refine belDrewN ?_ _ | with_reducible refine Below.trans ?_ (Below.mono (by assumption) ?_) | omega | (simp; omega) | (simp; done)))
  have HA4 := alloc4_cells w #[v0, v1, v2, v3] #[u0, u1, u2, u3] #[.int .i64 0, .int .i64 0, .int .i64 0, .int .i64 0] #[.int .i64 0, .int .i64 0, .int .i64 0, .int .i64 0] 84 84 27 73
  rw [hW] at HA4
  have HQ := Lib.hid (show ∀ (k : Nat) v, [v0, v1, v2, v3][k]? = some v → W.cell? ⟨w.heap.size, k, none⟩ = some v from fun k v hk => by rw [HA4.1 k]; simpa using hk)
  have HU := Lib.hid (show ∀ (k : Nat) v, [u0, u1, u2, u3][k]? = some v → W.cell? ⟨w.heap.size + 1, k, none⟩ = some v from fun k v hk => by rw [HA4.2.1 k]; simpa using hk)
  have HR4 := Lib.hid HA4.2.2.1
  have HF4 := Lib.hid HA4.2.2.2
  clear HA4
  have qs : W.heap.size = w.heap.size + 1 + 1 + 1 + 1 := by rw [← hW]; simp
  go_enter Tryd.func66, Tryd.ntmps66
  go_wp2_with fail
  go_loopw [5, 7, 8, 9, 10] (fun _ _ _ _ i wr => ∃ k : Nat, k ≤ 4 ∧ i = .int .i64 k ∧ Hid (TC a b k) ∧ Hid (∀ j, j < 4 → wr.cell? ⟨w.heap.size + 1 + 1 + 1, j, none⟩ = some (.int .i64 (if j < k then fcv a b j else 0)) ∧ wr.frozen? ⟨w.heap.size + 1 + 1 + 1, j, none⟩ = false) ∧ Below (w.heap.size + 1 + 1 + 1) W wr) (fun _ _ _ _ i _ => 4 - (intOf i).toNat)
  case atStart =>
    refine ⟨0, by omega, rfl, Lib.hid (fun i x y hi => by omega), Lib.hid (fun j hj => ?_), Below.refl _ _⟩
    refine ⟨?_, (HF4.out j).2⟩
    rw [(HF4.out j).1]
    rcases (by omega : j = 0 ∨ j = 1 ∨ j = 2 ∨ j = 3) with rfl | rfl | rfl | rfl <;> simp
  case round =>
    obtain ⟨k, hk4, rfl, HG, HF, hbr⟩ := hrel
    have hzr := hbr.size
    have hwr : Below w.heap.size w wr := hal.trans (hbr.mono (by omega))
    have z0 : w.heap.size < wr.heap.size := by omega
    have z1 : w.heap.size + 1 < wr.heap.size := by omega
    have z2 : w.heap.size + 1 + 1 < wr.heap.size := by omega
    have z3 : w.heap.size + 1 + 1 + 1 < wr.heap.size := by omega
    by_cases hlt : k < 4
    · have i1 : (k : Int) < 4 := by omega
      have i2 : (0 : Int) ≤ (k : Int) := by omega
      obtain ⟨x, hx⟩ : ∃ x, a[k]? = some x := ⟨_, List.getElem?_eq_getElem (by rw [← hs.1]; exact hlt)⟩
      obtain ⟨y, hy⟩ : ∃ y, b[k]? = some y := ⟨_, List.getElem?_eq_getElem (by rw [← ht.1]; exact hlt)⟩
      obtain ⟨sv, hsv, hss⟩ := hs.left hx
      obtain ⟨tv, htv, htt⟩ := ht.left hy
      have d0 : wr.cell? ⟨w.heap.size, k, none⟩ = some sv := (hbr.cell (p := ⟨w.heap.size, k, none⟩) (by simp only; omega)).trans (HQ.out k sv hsv)
      have d1 : wr.cell? ⟨w.heap.size + 1, k, none⟩ = some tv := (hbr.cell (p := ⟨w.heap.size + 1, k, none⟩) (by simp only; omega)).trans (HU.out k tv htv)
      have HX := Lib.hid hx
      have HY := Lib.hid hy
      have HSV := Lib.hid (hss.below hwr)
      have HTV := Lib.hid (htt.below hwr)
      obtain ⟨-, bva⟩ := bvalid_four ha
      obtain ⟨-, bvb⟩ := bvalid_four hb
      clear hx hy hss htt hsv htv
      obtain ⟨p, hp⟩ : ∃ p, (fcommon x y).1 = p := ⟨_, rfl⟩
      obtain ⟨r, hr⟩ : ∃ r, (fcommon x y).2 = r := ⟨_, rfl⟩
      have HP := Lib.hid hp
      have HR := Lib.hid hr
      have GX := Lib.hid (bva k x hlt HX.out)
      have GY := Lib.hid (bvb k y hlt HY.out)
      have hfz := (HF.out k hlt).2
      have hfc := (HF.out k hlt).1
      rw [if_neg (by omega)] at hfc
      clear hp hr bva bvb
      go_wp2_with fail
      refine wp_region_over (by kernel_rfl) (by kernel_rfl) (fun ov => ?_); have ov0 := fun x => ov x (w.heap.size) (by (try simp) <;> omega); have ov1 := fun x => ov x (w.heap.size + 1) (by (try simp) <;> omega); clear ov; (iterate 9 (iterate 8 (try go_big_quiet_step (first | (go_at_call 72; with_reducible exact callsOver (firstCommon_b (HSV.out.below (over_below _ _)) (HTV.out.below (over_below _ _)) (svalid_good GX.out) (svalid_good GY.out) HP.out HR.out)))))); refine wpQuiet_nil ?_; intro w9 hw9; have hb_w9 := below_over hw9; clear hw9 ov0 ov1
      have hb3 : Below (w.heap.size + 1 + 1 + 1) W w9 := hbr.trans (hb_w9.mono (by omega))
      have hw9 : Below w.heap.size w w9 := hwr.trans (hb_w9.mono hwr.size)
      have hz9 := hb_w9.size
      have g0 := (hb_w9.cell (p := ⟨w.heap.size + 1 + 1 + 1, k, none⟩) z3).trans hfc
      have f0 := (hb_w9.frozen (p := ⟨w.heap.size + 1 + 1 + 1, k, none⟩) z3).trans hfz
      have HF9 := Lib.hid (show ∀ j, j < 4 → w9.cell? ⟨w.heap.size + 1 + 1 + 1, j, none⟩ = some (.int .i64 (if j < k then fcv a b j else 0)) ∧ w9.frozen? ⟨w.heap.size + 1 + 1 + 1, j, none⟩ = false from fun j hj => ⟨(hb_w9.cell (p := ⟨w.heap.size + 1 + 1 + 1, j, none⟩) z3).trans (HF.out j hj).1, (hb_w9.frozen (p := ⟨w.heap.size + 1 + 1 + 1, j, none⟩) z3).trans (HF.out j hj).2⟩)
      have r0 := (hb3.cell (p := ⟨w.heap.size + 1 + 1, 0, none⟩) (by simp only; omega)).trans (HR4.out 0).1
      have r1 := (hb3.cell (p := ⟨w.heap.size + 1 + 1, 1, none⟩) (by simp only; omega)).trans (HR4.out 1).1
      have r2 := (hb3.cell (p := ⟨w.heap.size + 1 + 1, 2, none⟩) (by simp only; omega)).trans (HR4.out 2).1
      have r3 := (hb3.cell (p := ⟨w.heap.size + 1 + 1, 3, none⟩) (by simp only; omega)).trans (HR4.out 3).1
      have n0 := fun j => (hb3.frozen (p := ⟨w.heap.size + 1 + 1, j, none⟩) (by simp only; omega)).trans (HR4.out j).2
      simp at r0 r1 r2 r3
      clear hb_w9 hfc hfz d0 d1
      cases r
      · have HE := Lib.hid (TC.no HX.out HY.out HR.out)
        have hwW : Below w.heap.size w ((((w9.setCell ⟨w.heap.size + 1 + 1, 0, none⟩ (.int .i64 0)).setCell ⟨w.heap.size + 1 + 1, 1, none⟩ (.int .i64 0)).setCell ⟨w.heap.size + 1 + 1, 2, none⟩ (.int .i64 0)).setCell ⟨w.heap.size + 1 + 1, 3, none⟩ (.int .i64 0)) := (((hw9.setCell (by simp only; omega) _).setCell (by simp only; omega) _).setCell (by simp only; omega) _).setCell (by simp only; omega) _
        go_wp2
        refine bodyPost_ret (v := .tuple #[.agg #[.int .i64 0, .int .i64 0, .int .i64 0, .int .i64 0], .bool false]) ?_ rfl ⟨by unfold bfst; rw [HE.out]; rfl, hwW⟩
        simp [results, Tryd.results66, go_sem, r0, r1, r2, r3]
        done
      · have HE := Lib.hid (HG.out.step HX.out HY.out HR.out)
        have HV := Lib.hid (fcv_at HX.out HY.out)
        go_wp2
        go_roundw
        case rel =>
          refine ⟨k + 1, by omega, by go_num, HE, Lib.hid (fun j hj => ⟨?_, ?_⟩), hb3.setCell (Nat.le_refl _) _⟩
          · by_cases e : j = k
            · subst e
              rw [World.cell?_setCell_same' _ _ _ (by rw [g0]; rfl), if_pos (by omega), HV.out, HP.out]
            · rw [World.cell?_setCell_other _ _ _ _ (by intro h; cases h; exact e rfl), (HF9.out j hj).1]
              by_cases h : j < k
              · rw [if_pos h, if_pos (by omega)]
              · rw [if_neg h, if_neg (by omega)]
          · rw [World.frozen?_setCell]; exact (HF9.out j hj).2
        case measure => simp [intOf]; omega
    · have hkn : k = 4 := by omega
      have HE := Lib.hid (HG.out.yes (by rw [← hs.1, hkn]; exact Nat.le_refl 4))
      have f4 := HF.out
      subst hkn
      have c0 := (f4 0 (by omega)).1
      have c1 := (f4 1 (by omega)).1
      have c2 := (f4 2 (by omega)).1
      have c3 := (f4 3 (by omega)).1
      rw [if_pos (by omega)] at c0 c1 c2 c3
      have r0 := (hbr.cell (p := ⟨w.heap.size + 1 + 1, 0, none⟩) (by simp only; omega)).trans (HR4.out 0).1
      have r1 := (hbr.cell (p := ⟨w.heap.size + 1 + 1, 1, none⟩) (by simp only; omega)).trans (HR4.out 1).1
      have r2 := (hbr.cell (p := ⟨w.heap.size + 1 + 1, 2, none⟩) (by simp only; omega)).trans (HR4.out 2).1
      have r3 := (hbr.cell (p := ⟨w.heap.size + 1 + 1, 3, none⟩) (by simp only; omega)).trans (HR4.out 3).1
      have n0 := fun j => (hbr.frozen (p := ⟨w.heap.size + 1 + 1, j, none⟩) (by simp only; omega)).trans (HR4.out j).2
      simp at r0 r1 r2 r3
      clear f4 HF
      go_wp2_with fail
      refine (packetOf_any _ _ _ _ _).mono ?_
      rintro e w9 ⟨rfl, hb9⟩
      have hz9 := hb9.size
      have q0 := (hb9.cell (p := ⟨w.heap.size + 1 + 1, 0, none⟩) z2).trans r0
      have q1 := (hb9.cell (p := ⟨w.heap.size + 1 + 1, 1, none⟩) z2).trans r1
      have q2 := (hb9.cell (p := ⟨w.heap.size + 1 + 1, 2, none⟩) z2).trans r2
      have q3 := (hb9.cell (p := ⟨w.heap.size + 1 + 1, 3, none⟩) z2).trans r3
      have m0 := fun j => (hb9.frozen (p := ⟨w.heap.size + 1 + 1, j, none⟩) z2).trans (n0 j)
      have hw9 : Below w.heap.size w w9 := hwr.trans (hb9.mono hwr.size)
      clear hb9 n0 r0 r1 r2 r3
      have hwW : Below w.heap.size w ((((w9.setCell ⟨w.heap.size + 1 + 1, 0, none⟩ (.int .i64 (fcv a b 0))).setCell ⟨w.heap.size + 1 + 1, 1, none⟩ (.int .i64 (fcv a b 1))).setCell ⟨w.heap.size + 1 + 1, 2, none⟩ (.int .i64 (fcv a b 2))).setCell ⟨w.heap.size + 1 + 1, 3, none⟩ (.int .i64 (fcv a b 3))) := (((hw9.setCell (by simp only; omega) _).setCell (by simp only; omega) _).setCell (by simp only; omega) _).setCell (by simp only; omega) _
      go_wp2
      refine bodyPost_ret (v := .tuple #[.agg #[.int .i64 (fcv a b 0), .int .i64 (fcv a b 1), .int .i64 (fcv a b 2), .int .i64 (fcv a b 3)], .bool true]) ?_ rfl ⟨by unfold bfst; rw [HE.out]; rfl, hwW⟩
      simp [results, Tryd.results66, go_sem, q0, q1, q2, q3]
theorem fstCommon_b {lo lo' : Nat} {a b : Bx} {v0 v1 v2 v3 u0 u1 u2 u3 : Value} {w : World} {r : Bool} (hs : All2 (Sps lo w) [v0, v1, v2, v3] a) (ht : All2 (Sps lo' w) [u0, u1, u2, u3] b) (ha : bvalid a = true) (hb : bvalid b = true) (h : (!bempty (bmeet a b)) = r) :
    Calls Tryd.prog 66 #[.agg #[v0, v1, v2, v3], .agg #[u0, u1, u2, u3]] w fun e w' => e = .returned (.tuple #[bfst a b, .bool r]) ∧ Below w.heap.size w w' := by
  subst h
  exact fstCommon_any a b v0 v1 v2 v3 u0 u1 u2 u3 w hs ht ha hb
set_option maxHeartbeats 1000000 in
theorem touches_b {lo lo' : Nat} {a b : Bx} {v0 v1 v2 v3 u0 u1 u2 u3 : Value} {w : World} {r : Bool} (hs : All2 (Sps lo w) [v0, v1, v2, v3] a) (ht : All2 (Sps lo' w) [u0, u1, u2, u3] b) (ha : bvalid a = true) (hb : bvalid b = true) (h : (!bempty (bmeet a b)) = r) :
    Calls Tryd.prog 58 #[.agg #[v0, v1, v2, v3], .agg #[u0, u1, u2, u3]] w fun e w' => e = .returned (.bool r) ∧ Below w.heap.size w w' := by
  have HS := Lib.hid hs
  have HT := Lib.hid ht
  have HH := Lib.hid h
  obtain ⟨p1, p2, p3, p4, hp⟩ : ∃ p1 p2 p3 p4, bfst a b = .agg #[.int .i64 p1, .int .i64 p2, .int .i64 p3, .int .i64 p4] := by
    unfold bfst
    split
    · exact ⟨_, _, _, _, rfl⟩
    · exact ⟨_, _, _, _, rfl⟩
  have HP := Lib.hid hp
  clear hs ht h hp
  go_enter Tryd.func58, Tryd.ntmps58
  go_wp2_with fail
  refine (fstCommon_b (HS.out.mono (fun _ _ h => h.below (by (repeat' (first | with_reducible exact Below.refl _ _ | with_reducible assumption | with_reducible refine Below.setCell ?_ ?_ _ | with_reducible refine Below.alloc ?_ ?_ _ | with_reducible refine Below.drew ?_ | with_reducible refine belDrewN ?_ _ | with_reducible refine Below.trans ?_ (Below.mono (by assumption) ?_) | omega | (simp; omega) | (simp; done)))))) (HT.out.mono (fun _ _ h => h.below (by (repeat' (first | with_reducible exact Below.refl _ _ | with_reducible assumption | with_reducible refine Below.setCell ?_ ?_ _ | with_reducible refine Below.alloc ?_ ?_ _ | with_reducible refine Below.drew ?_ | with_reducible refine belDrewN ?_ _ | with_reducible refine Below.trans ?_ (Below.mono (by assumption) ?_) | omega | (simp; omega) | (simp; done)))))) ha hb HH.out).mono ?_
  rw [HP.out]
  rintro e w1 ⟨rfl, hb1⟩
  have hw1 : Below w.heap.size w w1 := by (repeat' (first | with_reducible exact Below.refl _ _ | with_reducible assumption | with_reducible refine Below.setCell ?_ ?_ _ | with_reducible refine Below.alloc ?_ ?_ _ | with_reducible refine Below.drew ?_ | with_reducible refine belDrewN ?_ _ | with_reducible refine Below.trans ?_ (Below.mono (by assumption) ?_) | omega | (simp; omega) | (simp; done)))
  clear hb1
  have hz1 := hw1.size
  go_wp2
  go_ret
  exact ⟨rfl, by (repeat' (first | with_reducible exact Below.refl _ _ | with_reducible assumption | with_reducible refine Below.setCell ?_ ?_ _ | with_reducible refine Below.alloc ?_ ?_ _ | with_reducible refine Below.drew ?_ | with_reducible refine belDrewN ?_ _ | with_reducible refine Below.trans ?_ (Below.mono (by assumption) ?_) | omega | (simp; omega) | (simp; done)))⟩
theorem smeet_le_len {t m : Int} {a b : List Sp} (ha : sgood t m a = true) (hb : sgood t m b = true) : sgood t m (smeet a b) = true := smeet_good hb ha
/-- Box a, its sets before n met with those of b. -/
def bmix (a b : Bx) (n : Nat) : Bx := (bmeet a b).take n ++ a.drop n
def bout (a b : Bx) (n : Nat) : List Sp := smeet (a.getD n []) (sother (top n) 0 (b.getD n []))
def bpc (a b : Bx) (n : Nat) : Bx := (bmix a b n).set n (bout a b n)
def bcuts (a b : Bx) : Nat → List Bx
  | 0 => []
  | n + 1 => bcuts a b n ++ (if (bout a b n).isEmpty then [] else [bpc a b n])
def bcut (a b : Bx) : List Bx := if bempty (bmeet a b) then (if bempty a then [] else [a]) else bcuts a b 4
def rvalid (l : List Bx) : Bool := decide (l.length ≤ 400) && l.all bvalid
theorem bvalid_get {b : Bx} (h : bvalid b = true) {n : Nat} (hn : n < 4) : ∃ xs, b[n]? = some xs ∧ svalid xs (top n) = true := by
  obtain ⟨h1, h2⟩ := bvalid_four h
  exact ⟨_, List.getElem?_eq_getElem (by omega), h2 n _ hn (List.getElem?_eq_getElem (by omega))⟩
theorem svalid_len {xs : List Sp} {t : Int} (h : svalid xs t = true) : xs.length ≤ 40 := by
  unfold svalid at h
  rw [Bool.and_eq_true, Bool.and_eq_true] at h
  exact of_decide_eq_true h.1.2
theorem svalid_of {xs : List Sp} {n : Nat} (hn : n < 4) (h : sgood (top n) 0 xs = true) : svalid xs (top n) = decide (xs.length ≤ 40) := by
  unfold svalid
  obtain ⟨h1, h2⟩ := top_le hn
  rw [h, inB_iff.2 ⟨h1, h2⟩]
  simp
theorem getD_get {α : Type} {l : List α} {n : Nat} {x d : α} (h : l[n]? = some x) : l.getD n d = x := by
  rw [List.getD_eq_getElem?_getD, h]; rfl
theorem bmeet_len {a b : Bx} (ha : a.length = 4) (hb : b.length = 4) : (bmeet a b).length = 4 := by
  unfold bmeet; rw [List.length_zipWith, ha, hb]; rfl
theorem bmix_len {a b : Bx} (ha : a.length = 4) (hb : b.length = 4) {n : Nat} (hn : n ≤ 4) : (bmix a b n).length = 4 := by
  unfold bmix; rw [List.length_append, List.length_take, List.length_drop, bmeet_len ha hb, ha]; omega
theorem bpc_len {a b : Bx} (ha : a.length = 4) (hb : b.length = 4) {n : Nat} (hn : n ≤ 4) : (bpc a b n).length = 4 := by
  unfold bpc; rw [List.length_set]; exact bmix_len ha hb hn
theorem bmix_lt {a b : Bx} (ha : a.length = 4) (hb : b.length = 4) {n i : Nat} (hn : n ≤ 4) (hi : i < n) : (bmix a b n)[i]? = (bmeet a b)[i]? := by
  unfold bmix
  rw [List.getElem?_append_left (by rw [List.length_take, bmeet_len ha hb]; omega), List.getElem?_take_of_lt hi]
theorem bmix_ge {a b : Bx} (ha : a.length = 4) (hb : b.length = 4) {n i : Nat} (hn : n ≤ 4) (hi : n ≤ i) : (bmix a b n)[i]? = a[i]? := by
  unfold bmix
  rw [List.getElem?_append_right (by rw [List.length_take, bmeet_len ha hb]; omega), List.length_take, bmeet_len ha hb, Nat.min_eq_left hn, List.getElem?_drop]
  congr 1; omega
theorem bpc_lt {a b : Bx} (ha : a.length = 4) (hb : b.length = 4) {n i : Nat} (hn : n < 4) (hi : i < n) : (bpc a b n)[i]? = (bmeet a b)[i]? := by
  unfold bpc
  rw [List.getElem?_set_ne (by omega), bmix_lt ha hb (by omega) hi]
theorem bpc_eq {a b : Bx} (ha : a.length = 4) (hb : b.length = 4) {n : Nat} (hn : n < 4) : (bpc a b n)[n]? = some (bout a b n) := by
  unfold bpc
  rw [List.getElem?_set_self (by rw [bmix_len ha hb (by omega)]; exact hn)]
theorem bpc_gt {a b : Bx} (ha : a.length = 4) (hb : b.length = 4) {n i : Nat} (hn : n < 4) (hi : n < i) : (bpc a b n)[i]? = a[i]? := by
  unfold bpc
  rw [List.getElem?_set_ne (by omega), bmix_ge ha hb (by omega) (by omega)]
theorem bmix_zero (a b : Bx) : bmix a b 0 = a := by simp [bmix]
theorem bmix_succ {a b : Bx} (ha : a.length = 4) (hb : b.length = 4) {n : Nat} (hn : n < 4) {x y : List Sp} (hx : a[n]? = some x) (hy : b[n]? = some y) : (bmix a b n).set n (smeet x y) = bmix a b (n + 1) := by
  apply List.ext_getElem?
  intro i
  rcases Nat.lt_trichotomy i n with h | h | h
  · rw [List.getElem?_set_ne (by omega), bmix_lt ha hb (by omega) h, bmix_lt ha hb (by omega) (by omega)]
  · subst h
    rw [List.getElem?_set_self (by rw [bmix_len ha hb (by omega)]; exact hn), bmix_lt ha hb (by omega) (by omega), bmeet_get hx hy]
  · rw [List.getElem?_set_ne (by omega), bmix_ge ha hb (by omega) (by omega), bmix_ge ha hb (by omega) (by omega)]
/-- All common sets before n are short enough. -/
def hfit (a b : Bx) (n : Nat) : Bool := (List.range n).all fun i => decide (((bmeet a b).getD i []).length ≤ 40)
theorem hfit_succ {a b : Bx} {n : Nat} {x y : List Sp} (hx : a[n]? = some x) (hy : b[n]? = some y) : hfit a b (n + 1) = (hfit a b n && decide ((smeet x y).length ≤ 40)) := by
  unfold hfit
  rw [List.range_succ, List.all_append, List.all_cons, List.all_nil, Bool.and_true, getD_get (bmeet_get hx hy)]
theorem bout_good {a b : Bx} (ha : bvalid a = true) (hb : bvalid b = true) {n : Nat} (hn : n < 4) : sgood (top n) 0 (bout a b n) = true := by
  obtain ⟨x, hx, vx⟩ := bvalid_get ha hn
  obtain ⟨y, hy, vy⟩ := bvalid_get hb hn
  unfold bout
  rw [getD_get hx, getD_get hy]
  exact smeet_good (sother_good (svalid_good vy)) (svalid_good vx)
theorem bmeet_good {a b : Bx} (ha : bvalid a = true) (hb : bvalid b = true) {n : Nat} (hn : n < 4) : ∃ z, (bmeet a b)[n]? = some z ∧ sgood (top n) 0 z = true := by
  obtain ⟨x, hx, vx⟩ := bvalid_get ha hn
  obtain ⟨y, hy, vy⟩ := bvalid_get hb hn
  exact ⟨_, bmeet_get hx hy, smeet_good (svalid_good vy) (svalid_good vx)⟩
theorem bvalid_iff {b : Bx} : bvalid b = true ↔ b.length = 4 ∧ ∀ n, n < 4 → svalid (b.getD n []) (top n) = true := by
  constructor
  · intro h
    refine ⟨(bvalid_four h).1, fun n hn => ?_⟩
    obtain ⟨x, hx, vx⟩ := bvalid_get h hn
    rw [getD_get hx]; exact vx
  · rintro ⟨h1, h2⟩
    refine bvalid_yes h1 (fun i xs hi hx => ?_)
    have := h2 i hi
    rwa [getD_get hx] at this
theorem bpc_valid {a b : Bx} (ha : bvalid a = true) (hb : bvalid b = true) {n : Nat} (hn : n < 4) : bvalid (bpc a b n) = (hfit a b n && decide ((bout a b n).length ≤ 40)) := by
  obtain ⟨la, va⟩ := bvalid_iff.1 ha
  obtain ⟨lb, vb⟩ := bvalid_iff.1 hb
  rw [Bool.eq_iff_iff, bvalid_iff, Bool.and_eq_true, decide_eq_true_iff]
  unfold hfit
  rw [List.all_eq_true]
  constructor
  · rintro ⟨h1, h2⟩
    refine ⟨fun i hi => ?_, ?_⟩
    · have hi := List.mem_range.1 hi
      have := svalid_len (h2 i (by omega))
      rw [List.getD_eq_getElem?_getD, bpc_lt la lb hn hi, ← List.getD_eq_getElem?_getD] at this
      exact decide_eq_true this
    · have := svalid_len (h2 n hn)
      rwa [List.getD_eq_getElem?_getD, bpc_eq la lb hn] at this
  · rintro ⟨h1, h2⟩
    refine ⟨bpc_len la lb (by omega), fun i hi => ?_⟩
    rcases Nat.lt_trichotomy i n with h | h | h
    · obtain ⟨z, hz, gz⟩ := bmeet_good ha hb hi
      have h3 := of_decide_eq_true (h1 i (List.mem_range.2 h))
      rw [getD_get hz] at h3
      rw [List.getD_eq_getElem?_getD, bpc_lt la lb hn h, hz]
      simp only [Option.getD_some]
      rw [svalid_of hi gz]; exact decide_eq_true h3
    · subst h
      rw [List.getD_eq_getElem?_getD, bpc_eq la lb hn]
      simp only [Option.getD_some]
      rw [svalid_of hi (bout_good ha hb hi)]; exact decide_eq_true h2
    · rw [List.getD_eq_getElem?_getD, bpc_gt la lb hn h, ← List.getD_eq_getElem?_getD]
      exact va i hi
theorem bempty_iff {b : Bx} (h : b.length = 4) : bempty b = false ↔ ∀ n, n < 4 → (b.getD n []).isEmpty = false := by
  unfold bempty
  rw [List.any_eq_false]
  constructor
  · intro g n hn
    rw [List.getD_eq_getElem?_getD, List.getElem?_eq_getElem (by omega)]
    simpa using g _ (List.getElem_mem (by omega : n < b.length))
  · intro g x hx
    obtain ⟨i, hi⟩ := List.getElem?_of_mem hx
    have := g i (by have := (List.getElem?_eq_some_iff.1 hi).1; omega)
    rw [getD_get hi] at this
    simpa using this
theorem bcuts_mem {a b : Bx} {z : Bx} : ∀ n, z ∈ bcuts a b n ↔ ∃ i, i < n ∧ (bout a b i).isEmpty = false ∧ z = bpc a b i
  | 0 => by simp [bcuts]
  | n + 1 => by
    unfold bcuts
    rw [List.mem_append, bcuts_mem n]
    constructor
    · rintro (⟨i, h1, h2⟩ | h)
      · exact ⟨i, by omega, h2⟩
      · cases e : (bout a b n).isEmpty
        · rw [e] at h; simp at h; exact ⟨n, by omega, e, h⟩
        · rw [e] at h; simp at h
    · rintro ⟨i, h1, h2, rfl⟩
      by_cases e : i = n
      · subst e; right; rw [h2]; simp
      · exact .inl ⟨i, by omega, h2, rfl⟩
/-- Nothing of a lies in b: it stays. -/
theorem bcuts_len (a b : Bx) : ∀ n, (bcuts a b n).length ≤ n
  | 0 => Nat.le_refl _
  | n + 1 => by
    unfold bcuts
    rw [List.length_append]
    have := bcuts_len a b n
    split <;> simp <;> omega
theorem bcut_len (a b : Bx) : (bcut a b).length ≤ 4 := by
  unfold bcut
  split
  · split <;> simp
  · exact bcuts_len a b 4
theorem str_drop (a : List Sp) (i : Nat) (c t : Int) : str (a.drop i) 0 c t = str a i c t := by
  unfold str
  rw [List.getElem?_drop, Nat.add_zero]
set_option maxHeartbeats 1000000 in
theorem stretch_any {lo : Nat} (xs : List Sp) (v : Value) (c t : Int) (w : World) (hs : Sps lo w v xs) (hg : ∀ x, xs[0]? = some x → -1000000 ≤ x.lo ∧ x.lo ≤ 1000000) :
    Calls Tryd.prog 77 #[v, .int .i64 c, .int .i64 t] w fun e w' => e = .returned (.tuple #[.bool (str xs 0 c t).1, .int .i64 (str xs 0 c t).2]) ∧ Below w.heap.size w w' := by
  obtain ⟨a, cap, rfl, hlc, hcm⟩ := hs.form
  unfold maxLen at hcm
  cases xs with
  | nil =>
    go_enter Tryd.func77, Tryd.ntmps77
    go_wp2
    go_ret2
    exact ⟨rfl, by (repeat' (first | with_reducible exact Below.refl _ _ | with_reducible assumption | with_reducible refine Below.setCell ?_ ?_ _ | with_reducible refine Below.alloc ?_ ?_ _ | with_reducible refine Below.drew ?_ | with_reducible refine belDrewN ?_ _ | with_reducible refine Below.trans ?_ (Below.mono (by assumption) ?_) | omega | (simp; omega) | (simp; done)))⟩
  | cons x xs =>
    obtain ⟨b, o, f1, f2, rfl, hbl, hx1, c0, c1⟩ := hs.at (show 0 < (x :: xs).length by simp)
    simp at hx1
    have h1 := (hg x rfl).1
    have h2 := (hg x rfl).2
    clear hg
    subst hx1
    simp only [Nat.zero_mul, Nat.add_zero] at c0 c1
    have hne : (((xs.length + 1 : Nat) : Int) == 0) = false := by simp; omega
    have hpos : (0 : Int) < ((xs.length + 1 : Nat) : Int) := by omega
    have hst : str (⟨f1, f2⟩ :: xs) 0 c t = if c < f1 then (false, f1 - 1) else (true, f2) := rfl
    rw [hst]
    simp only [List.length_cons] at hlc hs ⊢
    generalize xs.length + 1 = n at *
    clear hs hst
    by_cases hlt : c < f1
    · rw [if_pos hlt]
      go_enter Tryd.func77, Tryd.ntmps77
      go_wp2_with fail
      refine wp_region_over (by kernel_rfl) (by kernel_rfl) (fun ov => ?_); have ov0 := fun x => ov x (b) (by (try simp) <;> omega); clear ov; (iterate 9 (iterate 8 (try go_big_quiet_step (first | fail)))); refine wpQuiet_nil ?_; intro w8 hw9; have hb_w8 := below_over hw9; clear hw9 ov0
      go_wp2
      go_ret2
      exact ⟨rfl, hb_w8⟩
    · rw [if_neg hlt]
      go_enter Tryd.func77, Tryd.ntmps77
      go_wp2_with fail
      refine wp_region_over (by kernel_rfl) (by kernel_rfl) (fun ov => ?_); have ov0 := fun x => ov x (b) (by (try simp) <;> omega); clear ov; (iterate 9 (iterate 8 (try go_big_quiet_step (first | fail)))); refine wpQuiet_nil ?_; intro w8 hw9; have hb_w8 := below_over hw9; clear hw9 ov0
      go_wp2
      go_ret2
      exact ⟨rfl, hb_w8⟩
theorem stretch_b {lo : Nat} {xs : List Sp} {v : Value} {c t e : Int} {r : Bool} {w : World} (hs : Sps lo w v xs) (hg : ∀ x, xs[0]? = some x → -1000000 ≤ x.lo ∧ x.lo ≤ 1000000) (h : str xs 0 c t = (r, e)) :
    Calls Tryd.prog 77 #[v, .int .i64 c, .int .i64 t] w fun e' w' => e' = .returned (.tuple #[.bool r, .int .i64 e]) ∧ Below w.heap.size w w' := by
  have := stretch_any xs v c t w hs hg
  rwa [h] at this
theorem Sps.dropS {lo : Nat} {w : World} {a : Option Addr} {n cap : Nat} {xs : List Sp} (h : Sps lo w (.slice a n cap) xs) {k : Nat} (hk : k ≤ n) : Sps 0 w (.slice (dropA a cap k 2) (n - k) (cap - k)) (xs.drop k) :=
  SlFr.of (SlAt.drop (SlFr.at h) hk)
theorem wpList_slice_from {P : Program} {ops : Array Oper} {rest : List Oper} {o : Oper} {ac : Act} {w : World} {Q : Exit → Act → World → Prop} {t e : TypeId} {x y : Operand} (ho : o.op = .slice t x (some y) none none) (hgd : o.guard = none) {i : TypeInfo} {sz : Nat} (ht : P.underlying t = some (.slice e)) (hi : P.info? e = some i) (hsz : i.size = sz)
    {a : Option Addr} {n cap k : Nat} (hx : ac.eval x = .slice a n cap) (hy : ac.eval y = .int .i64 k) (hk : k ≤ n) (h : wpList P ops Q rest (ac.put o.dst (.slice (dropA a cap k sz) (n - k) (cap - k))) w) : wpList P ops Q (o :: rest) ac w :=
  wpList_plain hgd fun _ hK => wp_slice_from ho ht hi hsz hx hy hk (hK _ _ h)
theorem inBoth_any (p q : Bool) (w : World) : Calls Tryd.prog 70 #[.bool p, .bool q] w fun e w' => e = .returned (.bool (kMeet p q)) ∧ w = w' := by
  cases p <;> cases q <;> (go_enter Tryd.func70, Tryd.ntmps70; go_wp2; go_ret; exact ⟨rfl, rfl⟩)
theorem inFirstOnly_any (p q : Bool) (w : World) : Calls Tryd.prog 79 #[.bool p, .bool q] w fun e w' => e = .returned (.bool (kLess p q)) ∧ w = w' := by
  cases p <;> cases q <;> (go_enter Tryd.func79, Tryd.ntmps79; go_wp2; go_ret; exact ⟨rfl, rfl⟩)
theorem inBoth_b {p q r : Bool} (w : World) (h : kMeet p q = r) : Calls Tryd.prog 70 #[.bool p, .bool q] w fun e w' => e = .returned (.bool r) ∧ w = w' := by subst h; exact inBoth_any p q w
theorem inFirstOnly_b {p q r : Bool} (w : World) (h : kLess p q = r) : Calls Tryd.prog 79 #[.bool p, .bool q] w fun e w' => e = .returned (.bool r) ∧ w = w' := by subst h; exact inFirstOnly_any p q w
end Go.Proofs.YtfcbbahlhjdefaaDoor
