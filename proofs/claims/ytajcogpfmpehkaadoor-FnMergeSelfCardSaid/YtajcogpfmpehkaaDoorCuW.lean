/- Common packets, meetings and cuts of boxes: plain laws and small walks. -/
import Derived.Test.YtajcogpfmpehkaaDoorFmK
import Derived.Test.YtajcogpfmpehkaaDoorBsA
namespace Go.Proofs.YtajcogpfmpehkaaDoor
open Go.RowKit
def bempty (b : Bx) : Bool := b.any List.isEmpty
def bmeet (a b : Bx) : Bx := List.zipWith smeet a b
def fcommon (a b : List Sp) : Int × Bool := match smeet a b with
  | [] => (0, false)
  | s :: _ => (s.lo, true)
theorem smeet_none {a b : List Sp} (h : ∀ (p q : Nat) u v, a[p]? = some u → b[q]? = some v → meet1 u v = none) : smeet a b = [] := by
  unfold smeet
  rw [List.flatMap_eq_nil_iff]
  intro x hx
  rw [List.filterMap_eq_nil_iff]
  intro y hy
  obtain ⟨p, hp⟩ := List.getElem?_of_mem hx
  obtain ⟨q, hq⟩ := List.getElem?_of_mem hy
  exact h p q x y hp hq
theorem get_take {α : Type} {l : List α} {i p : Nat} {x : α} (h : (l.take i)[p]? = some x) : p < i ∧ l[p]? = some x := by
  rw [List.getElem?_take] at h
  split at h
  · exact ⟨by assumption, h⟩
  · cases h
theorem sgood_get {h : Int} : ∀ {xs : List Sp} {m : Int} {i : Nat} {x : Sp}, sgood h m xs = true → xs[i]? = some x → m ≤ x.lo ∧ x.lo ≤ x.hi ∧ x.hi ≤ h
  | [], _, _, _, _, hx => by simp at hx
  | s :: xs, m, 0, x, hg, hx => by
    rw [sgood_cons] at hg
    simp at hx
    subst hx
    exact ⟨hg.1, hg.2.1, hg.2.2.1⟩
  | s :: xs, m, i + 1, x, hg, hx => by
    rw [sgood_cons] at hg
    have := sgood_get hg.2.2.2 (by simpa using hx)
    omega
theorem sgood_lt {h : Int} : ∀ {xs : List Sp} {m : Int} {i p : Nat} {x u : Sp}, sgood h m xs = true → xs[i]? = some x → xs[p]? = some u → i < p → x.hi + 2 ≤ u.lo
  | [], _, _, _, _, _, _, hx, _, _ => by simp at hx
  | s :: xs, m, _, 0, _, _, _, _, _, hlt => by omega
  | s :: xs, m, 0, p + 1, x, u, hg, hx, hu, _ => by
    rw [sgood_cons] at hg
    simp at hx
    subst hx
    exact (sgood_get hg.2.2.2 (by simpa using hu)).1
  | s :: xs, m, i + 1, p + 1, x, u, hg, hx, hu, hlt => by
    rw [sgood_cons] at hg
    exact sgood_lt hg.2.2.2 (by simpa using hx) (by simpa using hu) (by omega)
/-- No common numbers before the two places. -/
def FC (a b : List Sp) (i j : Nat) : Prop := ∀ (p q : Nat) u v, (p < i ∨ q < j) → a[p]? = some u → b[q]? = some v → meet1 u v = none
theorem meet1_no {u v : Sp} (h : u.hi < v.lo ∨ v.hi < u.lo) : meet1 u v = none := by
  unfold meet1
  rw [if_neg (by omega)]
theorem FC.left {a b : List Sp} {i j : Nat} {x y : Sp} {h m : Int} (hf : FC a b i j) (hb : sgood h m b = true) (hx : a[i]? = some x) (hy : b[j]? = some y) (hm : meet1 x y = none) (hlt : x.hi < y.hi) : FC a b (i + 1) j := by
  intro p q u v hpq hu hv
  by_cases h1 : p < i ∨ q < j
  · exact hf p q u v h1 hu hv
  · have hp : p = i := by omega
    subst hp
    rw [hx] at hu
    cases hu
    by_cases h2 : q = j
    · subst h2; rw [hy] at hv; cases hv; exact hm
    · exact meet1_no (.inl (by have := sgood_lt hb hy hv (by omega); omega))
theorem FC.right {a b : List Sp} {i j : Nat} {x y : Sp} {h m : Int} (hf : FC a b i j) (ha : sgood h m a = true) (hx : a[i]? = some x) (hy : b[j]? = some y) (hm : meet1 x y = none) (hlt : ¬ x.hi < y.hi) : FC a b i (j + 1) := by
  intro p q u v hpq hu hv
  by_cases h1 : p < i ∨ q < j
  · exact hf p q u v h1 hu hv
  · have hq : q = j := by omega
    subst hq
    rw [hy] at hv
    cases hv
    by_cases h2 : p = i
    · subst h2; rw [hx] at hu; cases hu; exact hm
    · exact meet1_no (.inr (by have := sgood_lt ha hx hu (by omega); omega))
theorem FC.none {a b : List Sp} {i j : Nat} (hf : FC a b i j) (h : a.length ≤ i ∨ b.length ≤ j) : fcommon a b = (0, false) := by
  unfold fcommon
  rw [smeet_none (fun p q u v hu hv => hf p q u v (by
    have h1 := (List.getElem?_eq_some_iff.1 hu).1
    have h2 := (List.getElem?_eq_some_iff.1 hv).1
    omega) hu hv)]
theorem FC.zero (a b : List Sp) : FC a b 0 0 := fun p q u v h => by omega
theorem fcommon_emp {a b : List Sp} : (fcommon a b).2 = !(smeet a b).isEmpty := by
  unfold fcommon
  cases smeet a b <;> rfl
/-- All sets below k have common numbers. -/
def TC (a b : Bx) (k : Nat) : Prop := ∀ (i : Nat) x y, i < k → a[i]? = some x → b[i]? = some y → (smeet x y).isEmpty = false
theorem TC.step {a b : Bx} {k : Nat} {x y : List Sp} (h : TC a b k) (hx : a[k]? = some x) (hy : b[k]? = some y) (he : (fcommon x y).2 = true) : TC a b (k + 1) := by
  intro i u v hi hu hv
  by_cases e : i = k
  · subst e; rw [hx] at hu; rw [hy] at hv; cases hu; cases hv; rw [fcommon_emp] at he; simpa using he
  · exact h i u v (by omega) hu hv
theorem bmeet_at {a b : Bx} {i : Nat} {z : List Sp} (h : (bmeet a b)[i]? = some z) : ∃ x y, a[i]? = some x ∧ b[i]? = some y ∧ smeet x y = z := by
  unfold bmeet at h
  rw [List.getElem?_zipWith] at h
  split at h
  · rename_i x y hx hy; cases h; exact ⟨_, _, hx, hy, rfl⟩
  · cases h
theorem bmeet_get {a b : Bx} {i : Nat} {x y : List Sp} (hx : a[i]? = some x) (hy : b[i]? = some y) : (bmeet a b)[i]? = some (smeet x y) := by
  unfold bmeet
  rw [List.getElem?_zipWith, hx, hy]
theorem TC.no {a b : Bx} {k : Nat} {x y : List Sp} (hx : a[k]? = some x) (hy : b[k]? = some y) (he : (fcommon x y).2 = false) : bempty (bmeet a b) = true := by
  rw [fcommon_emp] at he
  unfold bempty
  rw [List.any_eq_true]
  exact ⟨_, List.mem_of_getElem? (bmeet_get hx hy), by simpa using he⟩
/-- Whether rules number n and the next one can be exchanged. -/
def tiedB (f g : Ft) : Bool := !decide (f.acc = g.acc) && !bempty (bmeet f.box g.box)
def tiedAt (fs : List Ft) (i j : Nat) : Bool := match fs[i]?, fs[j]? with
  | some f, some g => tiedB f g
  | _, _ => false
def cansw (fs : List Ft) (n : Int) : Bool := fvalid fs && inB n 0 ((fs.length : Int) - 2) && !tiedAt fs n.toNat (n.toNat + 1)
theorem shas_none {xs : List Sp} {n : Int} (h : ∀ (k : Nat) x, xs[k]? = some x → inB n x.lo x.hi = false) : shas xs n = false := by
  unfold shas
  rw [List.any_eq_false]
  intro x hx
  obtain ⟨k, hk⟩ := List.getElem?_of_mem hx
  simpa using h k x hk
theorem inB_no {n lo hi : Int} (h : n < lo ∨ hi < n) : inB n lo hi = false := by
  cases e : inB n lo hi
  · rfl
  · rw [inB_iff] at e; omega
/-- Whether number c is in the set of which the ranges before i are over, and how long that stays so. -/
def str (a : List Sp) (i : Nat) (c t : Int) : Bool × Int := match a[i]? with
  | none => (false, t)
  | some x => if c < x.lo then (false, x.lo - 1) else (true, x.hi)
def Past (a : List Sp) (i : Nat) (c : Int) : Prop := ∀ (k : Nat) x, k < i → a[k]? = some x → x.hi < c
theorem Past.zero (a : List Sp) (c : Int) : Past a 0 c := fun k x h => by omega
theorem Past.step {a : List Sp} {i : Nat} {c : Int} {x : Sp} (h : Past a i c) (hx : a[i]? = some x) (hl : x.hi < c) : Past a (i + 1) c := fun k y hk hy => by
  by_cases e : k = i
  · subst e; rw [hx] at hy; cases hy; exact hl
  · exact h k y (by omega) hy
theorem Past.mono {a : List Sp} {i : Nat} {c c' : Int} (h : Past a i c) (hc : c ≤ c') : Past a i c' := fun k x hk hx => by
  have := h k x hk hx
  omega
theorem str_spec {a : List Sp} {i : Nat} {c t m : Int} (hg : sgood t m a = true) (hp : Past a i c) (hq : ∀ x, a[i]? = some x → c ≤ x.hi) (hc : c ≤ t) :
    c ≤ (str a i c t).2 ∧ (str a i c t).2 ≤ t ∧ ∀ n, c ≤ n → n ≤ (str a i c t).2 → shas a n = (str a i c t).1 := by
  unfold str
  cases hx : a[i]? with
  | none =>
    refine ⟨hc, Int.le_refl _, fun n h1 h2 => shas_none (fun k x hk => inB_no (.inr ?_))⟩
    have e1 := List.getElem?_eq_none_iff.1 hx
    have e2 := (List.getElem?_eq_some_iff.1 hk).1
    have := hp k x (by omega) hk
    omega
  | some x =>
    have g := sgood_get hg hx
    by_cases hlt : c < x.lo
    · simp only [if_pos hlt]
      refine ⟨by omega, by omega, fun n h1 h2 => shas_none (fun k y hk => inB_no ?_)⟩
      by_cases hk' : k < i
      · exact .inr (by have := hp k y hk' hk; omega)
      · by_cases e : k = i
        · subst e; rw [hx] at hk; cases hk; exact .inl (by omega)
        · exact .inl (by have := sgood_lt hg hx hk (by omega); omega)
    · simp only [if_neg hlt]
      exact ⟨hq x hx, g.2.2, fun n h1 h2 => shas_hit hx (inB_iff.2 ⟨by omega, h2⟩)⟩
theorem sgood_left {h : Int} : ∀ {m : Int} {xs ys : List Sp}, sgood h m (xs ++ ys) = true → sgood h m xs = true
  | _, [], _, _ => rfl
  | m, x :: xs, ys, hg => by
    rw [List.cons_append, sgood_cons] at hg
    rw [sgood_cons]
    exact ⟨hg.1, hg.2.1, hg.2.2.1, sgood_left hg.2.2.2⟩
theorem sgood_snoc {h h' : Int} {s : Sp} : ∀ {m : Int} {xs : List Sp}, sgood h m xs = true → m ≤ s.lo → s.lo ≤ s.hi → s.hi ≤ h' → h ≤ h' → (∀ (k : Nat) x, k + 1 = xs.length → xs[k]? = some x → x.hi + 2 ≤ s.lo) → sgood h' m (xs ++ [s]) = true
  | m, [], _, h1, h2, h3, _, _ => by rw [List.nil_append, sgood_cons]; exact ⟨h1, h2, h3, rfl⟩
  | m, x :: xs, hg, h1, h2, h3, h4, hl => by
    rw [sgood_cons] at hg
    rw [List.cons_append, sgood_cons]
    refine ⟨hg.1, hg.2.1, by omega, sgood_snoc hg.2.2.2 ?_ h2 h3 h4 (fun k y hk hy => hl (k + 1) y (by simp; omega) (by simpa using hy))⟩
    cases xs with
    | nil => exact hl 0 x rfl rfl
    | cons z zs =>
      obtain ⟨y, hy⟩ : ∃ y, (z :: zs)[zs.length]? = some y := ⟨_, List.getElem?_eq_getElem (by simp)⟩
      have g := sgood_get hg.2.2.2 hy
      have g2 := hl (zs.length + 1) y (by simp) (by simpa using hy)
      omega
theorem sgood_len {h : Int} : ∀ {m : Int} {xs : List Sp}, sgood h m xs = true → (xs.length : Int) = 0 ∨ 2 * (xs.length : Int) ≤ h - m + 2
  | m, [], _ => .inl rfl
  | m, x :: xs, hg => by
    rw [sgood_cons] at hg
    have := sgood_len hg.2.2.2
    right
    simp only [List.length_cons]
    omega
/-- What the sweep has found before number c. -/
def SW (K : Bool → Bool → Bool) (a b : List Sp) (c : Int) (ys : List Sp) : Prop := sgood (c - 1) 0 ys = true ∧ ∀ n, shas ys n = (inB n 0 (c - 1) && K (shas a n) (shas b n))
theorem SW.nil (K : Bool → Bool → Bool) (a b : List Sp) : SW K a b 0 [] := ⟨rfl, fun n => by
  rw [show inB n 0 (0 - 1) = false from by cases e : inB n 0 (0 - 1); rfl; rw [inB_iff] at e; omega]; rfl⟩
theorem inB_cut {n c e : Int} (h0 : 0 ≤ c) (h1 : c ≤ e) : inB n 0 (e + 1 - 1) = (inB n 0 (c - 1) || inB n c e) := by
  rw [Bool.eq_iff_iff, Bool.or_eq_true, inB_iff, inB_iff, inB_iff]
  omega
theorem SW.skip {K : Bool → Bool → Bool} {a b : List Sp} {c e : Int} {ys : List Sp} (h : SW K a b c ys) (h0 : 0 ≤ c) (h1 : c ≤ e) (hk : ∀ n, c ≤ n → n ≤ e → K (shas a n) (shas b n) = false) : SW K a b (e + 1) ys := by
  refine ⟨sgood_top h.1 (by omega), fun n => ?_⟩
  rw [h.2, inB_cut h0 h1]
  cases e1 : inB n 0 (c - 1)
  · cases e2 : inB n c e
    · rfl
    · rw [inB_iff] at e2
      rw [hk n e2.1 e2.2]
      rfl
  · rfl
theorem SW.has {K : Bool → Bool → Bool} {a b : List Sp} {c e : Int} {ys : List Sp} (h : SW K a b c ys) (h0 : 0 ≤ c) (h1 : c ≤ e) (hk : ∀ n, c ≤ n → n ≤ e → K (shas a n) (shas b n) = true) (n : Int) : (shas ys n || inB n c e) = (inB n 0 (e + 1 - 1) && K (shas a n) (shas b n)) := by
  rw [h.2, inB_cut h0 h1]
  cases e1 : inB n 0 (c - 1)
  · cases e2 : inB n c e
    · rfl
    · rw [inB_iff] at e2
      rw [hk n e2.1 e2.2]
      rfl
  · cases e2 : inB n c e
    · simp
    · rw [inB_iff] at e1 e2; omega
theorem SW.push {K : Bool → Bool → Bool} {a b : List Sp} {c e : Int} {ys : List Sp} (h : SW K a b c ys) (h0 : 0 ≤ c) (h1 : c ≤ e) (hk : ∀ n, c ≤ n → n ≤ e → K (shas a n) (shas b n) = true)
    (hl : ∀ (k : Nat) x, k + 1 = ys.length → ys[k]? = some x → x.hi + 1 ≠ c) : SW K a b (e + 1) (ys ++ [⟨c, e⟩]) := by
  refine ⟨sgood_snoc h.1 h0 h1 (by simp only; omega) (by omega) (fun k x hk hx => ?_), fun n => ?_⟩
  · have g := sgood_get h.1 hx
    have := hl k x hk hx
    simp only
    omega
  · rw [shas_append, ← h.has h0 h1 hk n]
    simp [shas]
theorem set_last {α : Type} {ys : List α} {k : Nat} {y : α} (hk : k + 1 = ys.length) : ys.set k y = ys.take k ++ [y] := by
  rw [List.set_eq_take_append_cons_drop, if_pos (by omega), List.drop_of_length_le (by omega)]
theorem take_last {α : Type} {ys : List α} {k : Nat} {s : α} (hk : k + 1 = ys.length) (hs : ys[k]? = some s) : ys = ys.take k ++ [s] := by
  conv => lhs; rw [← List.take_length (l := ys), ← hk, List.take_add_one, hs]
  rfl
theorem SW.grow {K : Bool → Bool → Bool} {a b : List Sp} {c e : Int} {ys : List Sp} {k : Nat} {s : Sp} (h : SW K a b c ys) (h0 : 0 ≤ c) (h1 : c ≤ e) (hk : ∀ n, c ≤ n → n ≤ e → K (shas a n) (shas b n) = true)
    (hl : k + 1 = ys.length) (hs : ys[k]? = some s) (he : s.hi + 1 = c) : SW K a b (e + 1) (ys.set k ⟨s.lo, e⟩) := by
  have g := sgood_get h.1 hs
  have ht := take_last hl hs
  have hgt : sgood (c - 1) 0 (ys.take k) = true := by have := h.1; rw [ht] at this; exact sgood_left this
  rw [set_last hl]
  refine ⟨sgood_snoc hgt (by simp only; omega) (by simp only; omega) (by simp only; omega) (by omega) (fun j x hj hx => ?_), fun n => ?_⟩
  · rw [List.length_take] at hj
    rw [List.getElem?_take_of_lt (show j < k by omega)] at hx
    have := sgood_lt h.1 hx hs (show j < k by omega)
    simpa using this
  · rw [shas_append, ← h.has h0 h1 hk n]
    conv => rhs; rw [ht, shas_append]
    rw [Bool.or_assoc]
    congr 1
    simp only [shas, List.any_cons, List.any_nil, Bool.or_false]
    rw [Bool.eq_iff_iff, Bool.or_eq_true, inB_iff, inB_iff, inB_iff]
    omega
def kMeet (p q : Bool) : Bool := p && q
def kLess (p q : Bool) : Bool := p && !q
def kUni (p q : Bool) : Bool := p || q
theorem SW.meet {a b ys : List Sp} {t : Int} (h : SW kMeet a b (t + 1) ys) (ha : sgood t 0 a = true) (hb : sgood t 0 b = true) : ys = smeet a b := by
  refine sgood_ext h.1 (smeet_good hb ha) (fun n => ?_)
  rw [h.2, smeet_has]
  unfold kMeet
  cases e : shas a n
  · simp
  · have := shas_ge ha e
    rw [show inB n 0 (t + 1 - 1) = true from inB_iff.2 ⟨by omega, by omega⟩]
    simp
theorem SW.less {a b ys : List Sp} {t : Int} (h : SW kLess a b (t + 1) ys) (ha : sgood t 0 a = true) (hb : sgood t 0 b = true) : ys = smeet a (sother t 0 b) := by
  refine sgood_ext h.1 (smeet_good (sother_good hb) ha) (fun n => ?_)
  rw [h.2, smeet_has, sother_has n hb]
  unfold kLess
  cases e : shas a n
  · simp
  · have := shas_ge ha e
    rw [show inB n 0 (t + 1 - 1) = true from inB_iff.2 ⟨by omega, by omega⟩, show inB n 0 t = true from inB_iff.2 ⟨by omega, by omega⟩]
    all_goals simp
/-- The union of two sets, range by range. -/
def suni (a : List Sp) : List Sp → List Sp
  | [] => a
  | y :: b => suni (sadd a false y) b
theorem suni_good {t : Int} : ∀ {m m' : Int} {b a : List Sp}, sgood t m b = true → sgood t m' a = true → ∃ m'', sgood t m'' (suni a b) = true
  | _, m', [], a, _, ha => ⟨m', ha⟩
  | m, m', y :: b, a, hb, ha => by
    rw [sgood_cons] at hb
    unfold suni
    exact suni_good hb.2.2.2 (sadd_good ha hb.2.1 hb.2.2.1)
theorem suni_has {t : Int} (n : Int) : ∀ {m m' : Int} {b a : List Sp}, sgood t m b = true → sgood t m' a = true → shas (suni a b) n = (shas a n || shas b n)
  | _, m', [], a, _, ha => by simp [suni, shas]
  | m, m', y :: b, a, hb, ha => by
    rw [sgood_cons] at hb
    unfold suni
    rw [suni_has n hb.2.2.2 (sadd_good ha hb.2.1 hb.2.2.1), sadd_has n ha hb.2.1, shas_cons]
    cases shas a n <;> cases inB n y.lo y.hi <;> rfl
theorem SW.uni {a b ys : List Sp} {t : Int} (h : SW kUni a b (t + 1) ys) (ha : sgood t 0 a = true) (hb : sgood t 0 b = true) : ys = suni a b := by
  obtain ⟨m, hm⟩ := suni_good hb ha
  refine sgood_ext h.1 hm (fun n => ?_)
  rw [h.2, suni_has n hb ha]
  unfold kUni
  cases e : shas a n
  · cases e2 : shas b n
    · simp
    · have := shas_ge hb e2
      rw [show inB n 0 (t + 1 - 1) = true from inB_iff.2 ⟨by omega, by omega⟩]
      rfl
  · have := shas_ge ha e
    rw [show inB n 0 (t + 1 - 1) = true from inB_iff.2 ⟨by omega, by omega⟩]
    rfl
theorem bempty_yes {b : Bx} {k : Nat} {xs : List Sp} (hx : b[k]? = some xs) (h : xs.isEmpty = true) : bempty b = true := by
  unfold bempty
  rw [List.any_eq_true]
  exact ⟨_, List.mem_of_getElem? hx, h⟩
theorem bempty_no {b : Bx} (h : ∀ (j : Nat) xs, b[j]? = some xs → xs.isEmpty = false) : bempty b = false := by
  unfold bempty
  rw [List.any_eq_false]
  intro z hz
  obtain ⟨i, hi⟩ := List.getElem?_of_mem hz
  simpa using h i z hi
set_option maxHeartbeats 2000000 in
theorem l10Empty_any {lo : Nat} (b : Bx) (v : Value) (w : World) (hs : Rws lo w v b) :
    Calls Tryd.prog 47 #[.agg #[v]] w fun e w' => e = .returned (.bool (bempty b)) ∧ Below w.heap.size w w' := by
  obtain ⟨a, cap, rfl, hlc, hcm⟩ := hs.form
  unfold maxLen at hcm
  have hal : Below w.heap.size w (w.alloc (.cells #[.slice a b.length cap] 32)) := (Below.refl _ _).alloc (Nat.le_refl _) _
  have q0 : (w.alloc (.cells #[.slice a b.length cap] 32)).cell? ⟨w.heap.size, 0, none⟩ = some (.slice a b.length cap) := by simp
  obtain ⟨W, hW⟩ : ∃ W, w.alloc (.cells #[.slice a b.length cap] 32) = W := ⟨_, rfl⟩
  have qs : w.heap.size < W.heap.size := by rw [← hW]; simp
  rw [hW] at hal q0
  have hsW := hs.below hal
  generalize hn : b.length = n at *
  have HN := Lib.hid hn
  clear hn
  go_enter Tryd.func47, Tryd.ntmps47
  go_wp2_with fail
  go_loopw [3] (fun i wr => ∃ k : Nat, k ≤ n ∧ i = .int .i64 k ∧ Hid (∀ (j : Nat) xs, j < k → b[j]? = some xs → xs.isEmpty = false) ∧ Below W.heap.size W wr) (fun i _ => n - (intOf i).toNat)
  case atStart => exact ⟨0, by omega, rfl, Lib.hid (fun i xs hi => by omega), Below.refl _ _⟩
  case round =>
    obtain ⟨k, hk, rfl, HG, hbr⟩ := hrel
    have hzr := hbr.size
    have e0 := (hbr.cell (p := ⟨w.heap.size, 0, none⟩) qs).trans q0
    have qsr : w.heap.size < wr.heap.size := Nat.lt_of_lt_of_le qs hzr
    have hs2 := hsW.below hbr
    have hwr : Below w.heap.size w wr := hal.trans (hbr.mono (by omega))
    by_cases hlt : k < n
    · have i1 : (k : Int) < (n : Int) := by omega
      have i2 : (0 : Int) ≤ (k : Int) := by omega
      obtain ⟨xs, hx⟩ : ∃ xs, b[k]? = some xs := ⟨_, List.getElem?_eq_getElem (by rw [HN.out]; exact hlt)⟩
      obtain ⟨b', o, sv, rfl, hbl, c0, hsv⟩ := hs2.at hx
      have HX := Lib.hid hx
      obtain ⟨sa, sc, rfl, -, -⟩ := hsv.form
      clear hx hsv
      cases hv : xs.isEmpty
      · have HV := Lib.hid hv
        have hne : ((xs.length : Int) == 0) = false := by
          cases xs with
          | nil => simp at hv
          | cons x xs => simp; omega
        clear hv
        go_wp2
        go_roundw
        case rel =>
          refine ⟨k + 1, by omega, by go_num, Lib.hid (fun j ys hj hy => ?_), hbr⟩
          by_cases e : j = k
          · subst e; rw [HX.out] at hy; cases hy; exact HV.out
          · exact HG.out j ys (by omega) hy
        case measure => simp [intOf]; omega
      · have HE := Lib.hid (bempty_yes HX.out hv)
        obtain rfl : xs = [] := by simpa using hv
        clear hv
        go_wp2
        go_ret
        exact ⟨ret_bool HE.out.symm, hwr⟩
    · have hkn : k = n := by omega
      have HE := Lib.hid (bempty_no (b := b) (fun j xs hj => HG.out j xs (by have := (List.getElem?_eq_some_iff.1 hj).1; rw [HN.out] at this; omega) hj))
      go_wp2
      go_ret
      exact ⟨ret_bool HE.out.symm, hwr⟩
theorem l10Empty_b {lo : Nat} {b : Bx} {v : Value} {w : World} {r : Bool} (hs : Rws lo w v b) (h : bempty b = r) :
    Calls Tryd.prog 47 #[.agg #[v]] w fun e w' => e = .returned (.bool r) ∧ Below w.heap.size w w' := by
  subst h
  exact l10Empty_any b v w hs
/-- The value that firstCommon returns, if it returns true. -/
def fcv (a b : Bx) (i : Nat) : Int := match a[i]?, b[i]? with
  | some x, some y => (fcommon x y).1
  | _, _ => 0
def bfst (a b : Bx) : Value := if bempty (bmeet a b) then .agg #[.int .i64 0, .int .i64 0, .int .i64 0, .int .i64 0] else .agg #[.int .i64 (fcv a b 0), .int .i64 (fcv a b 1), .int .i64 (fcv a b 2), .int .i64 (fcv a b 3)]
theorem svalid_good {xs : List Sp} {t : Int} (h : svalid xs t = true) : sgood t 0 xs = true := by
  unfold svalid at h
  rw [Bool.and_eq_true] at h
  exact h.2
theorem alloc4_cells (w : World) (A B C D : Array Value) (t1 t2 t3 t4 : Nat) :
    (∀ k, ((((w.alloc (.cells A t1)).alloc (.cells B t2)).alloc (.cells C t3)).alloc (.cells D t4)).cell? ⟨w.heap.size, k, none⟩ = A[k]?) ∧ (∀ k, ((((w.alloc (.cells A t1)).alloc (.cells B t2)).alloc (.cells C t3)).alloc (.cells D t4)).cell? ⟨w.heap.size + 1, k, none⟩ = B[k]?) ∧
    (∀ k, ((((w.alloc (.cells A t1)).alloc (.cells B t2)).alloc (.cells C t3)).alloc (.cells D t4)).cell? ⟨w.heap.size + 1 + 1, k, none⟩ = C[k]? ∧ ((((w.alloc (.cells A t1)).alloc (.cells B t2)).alloc (.cells C t3)).alloc (.cells D t4)).frozen? ⟨w.heap.size + 1 + 1, k, none⟩ = false) ∧
    (∀ k, ((((w.alloc (.cells A t1)).alloc (.cells B t2)).alloc (.cells C t3)).alloc (.cells D t4)).cell? ⟨w.heap.size + 1 + 1 + 1, k, none⟩ = D[k]? ∧ ((((w.alloc (.cells A t1)).alloc (.cells B t2)).alloc (.cells C t3)).alloc (.cells D t4)).frozen? ⟨w.heap.size + 1 + 1 + 1, k, none⟩ = false) := by
  refine ⟨fun k => ?_, fun k => ?_, fun k => ⟨?_, ?_⟩, fun k => ⟨?_, ?_⟩⟩ <;> go_simp
/-- Box a, its sets before n met with those of b. -/
def bmix (a b : Bx) (n : Nat) : Bx := (bmeet a b).take n ++ a.drop n
def bout (a b : Bx) (n : Nat) : List Sp := smeet (a.getD n []) (sother (top n) 0 (b.getD n []))
def bpc (a b : Bx) (n : Nat) : Bx := (bmix a b n).set n (bout a b n)
def bcuts (a b : Bx) : Nat → List Bx
  | 0 => []
  | n + 1 => bcuts a b n ++ (if (bout a b n).isEmpty then [] else [bpc a b n])
def bcut (a b : Bx) : List Bx := if bempty (bmeet a b) then (if bempty a then [] else [a]) else bcuts a b 4
def bless1 (rest : List Bx) (x : Bx) : List Bx := rest.flatMap (fun b => bcut b x)
def rvalid (l : List Bx) : Bool := decide (l.length ≤ 400) && l.all bvalid
/-- What the boxes of a list leave of boxes. -/
def bless : List Bx → List Bx → Option (List Bx)
  | rest, [] => some rest
  | rest, x :: xs => if rvalid (bless1 rest x) then bless (bless1 rest x) xs else none
def bstart (b : Bx) : List Bx := if bempty b then [] else [b]
def blessB (b : Bx) (xs : List Bx) : Option (List Bx) := bless (bstart b) xs
theorem bvalid_get {b : Bx} (h : bvalid b = true) {n : Nat} (hn : n < 4) : ∃ xs, b[n]? = some xs ∧ svalid xs (top n) = true := by
  obtain ⟨h1, h2⟩ := bvalid_four h
  exact ⟨_, List.getElem?_eq_getElem (by omega), h2 n _ hn (List.getElem?_eq_getElem (by omega))⟩
theorem svalid_len {xs : List Sp} {t : Int} (h : svalid xs t = true) : xs.length ≤ 40 := by
  unfold svalid at h
  rw [Bool.and_eq_true, Bool.and_eq_true] at h
  exact of_decide_eq_true h.1.2
theorem svalid_of {xs : List Sp} {n : Nat} (hn : n < 4) (h : sgood (top n) 0 xs = true) : svalid xs (top n) = decide (xs.length ≤ 40) := by
  unfold svalid
  obtain ⟨h1, h2⟩ := top_le hn
  rw [h, inB_iff.2 ⟨h1, h2⟩]
  simp
theorem getD_get {α : Type} {l : List α} {n : Nat} {x d : α} (h : l[n]? = some x) : l.getD n d = x := by
  rw [List.getD_eq_getElem?_getD, h]; rfl
theorem bmeet_len {a b : Bx} (ha : a.length = 4) (hb : b.length = 4) : (bmeet a b).length = 4 := by
  unfold bmeet; rw [List.length_zipWith, ha, hb]; rfl
theorem bmix_len {a b : Bx} (ha : a.length = 4) (hb : b.length = 4) {n : Nat} (hn : n ≤ 4) : (bmix a b n).length = 4 := by
  unfold bmix; rw [List.length_append, List.length_take, List.length_drop, bmeet_len ha hb, ha]; omega
theorem bmix_lt {a b : Bx} (ha : a.length = 4) (hb : b.length = 4) {n i : Nat} (hn : n ≤ 4) (hi : i < n) : (bmix a b n)[i]? = (bmeet a b)[i]? := by
  unfold bmix
  rw [List.getElem?_append_left (by rw [List.length_take, bmeet_len ha hb]; omega), List.getElem?_take_of_lt hi]
theorem bmix_ge {a b : Bx} (ha : a.length = 4) (hb : b.length = 4) {n i : Nat} (hn : n ≤ 4) (hi : n ≤ i) : (bmix a b n)[i]? = a[i]? := by
  unfold bmix
  rw [List.getElem?_append_right (by rw [List.length_take, bmeet_len ha hb]; omega), List.length_take, bmeet_len ha hb, Nat.min_eq_left hn, List.getElem?_drop]
  congr 1; omega
theorem bmix_zero (a b : Bx) : bmix a b 0 = a := by simp [bmix]
theorem bmix_succ {a b : Bx} (ha : a.length = 4) (hb : b.length = 4) {n : Nat} (hn : n < 4) {x y : List Sp} (hx : a[n]? = some x) (hy : b[n]? = some y) : (bmix a b n).set n (smeet x y) = bmix a b (n + 1) := by
  apply List.ext_getElem?
  intro i
  rcases Nat.lt_trichotomy i n with h | h | h
  · rw [List.getElem?_set_ne (by omega), bmix_lt ha hb (by omega) h, bmix_lt ha hb (by omega) (by omega)]
  · subst h
    rw [List.getElem?_set_self (by rw [bmix_len ha hb (by omega)]; exact hn), bmix_lt ha hb (by omega) (by omega), bmeet_get hx hy]
  · rw [List.getElem?_set_ne (by omega), bmix_ge ha hb (by omega) (by omega), bmix_ge ha hb (by omega) (by omega)]
/-- All common sets before n are short enough. -/
def hfit (a b : Bx) (n : Nat) : Bool := (List.range n).all fun i => decide (((bmeet a b).getD i []).length ≤ 40)
theorem bout_good {a b : Bx} (ha : bvalid a = true) (hb : bvalid b = true) {n : Nat} (hn : n < 4) : sgood (top n) 0 (bout a b n) = true := by
  obtain ⟨x, hx, vx⟩ := bvalid_get ha hn
  obtain ⟨y, hy, vy⟩ := bvalid_get hb hn
  unfold bout
  rw [getD_get hx, getD_get hy]
  exact smeet_good (sother_good (svalid_good vy)) (svalid_good vx)
theorem bmeet_good {a b : Bx} (ha : bvalid a = true) (hb : bvalid b = true) {n : Nat} (hn : n < 4) : ∃ z, (bmeet a b)[n]? = some z ∧ sgood (top n) 0 z = true := by
  obtain ⟨x, hx, vx⟩ := bvalid_get ha hn
  obtain ⟨y, hy, vy⟩ := bvalid_get hb hn
  exact ⟨_, bmeet_get hx hy, smeet_good (svalid_good vy) (svalid_good vx)⟩
theorem bvalid_iff {b : Bx} : bvalid b = true ↔ b.length = 4 ∧ ∀ n, n < 4 → svalid (b.getD n []) (top n) = true := by
  constructor
  · intro h
    refine ⟨(bvalid_four h).1, fun n hn => ?_⟩
    obtain ⟨x, hx, vx⟩ := bvalid_get h hn
    rw [getD_get hx]; exact vx
  · rintro ⟨h1, h2⟩
    refine bvalid_yes h1 (fun i xs hi hx => ?_)
    have := h2 i hi
    rwa [getD_get hx] at this
theorem bempty_iff {b : Bx} (h : b.length = 4) : bempty b = false ↔ ∀ n, n < 4 → (b.getD n []).isEmpty = false := by
  unfold bempty
  rw [List.any_eq_false]
  constructor
  · intro g n hn
    rw [List.getD_eq_getElem?_getD, List.getElem?_eq_getElem (by omega)]
    simpa using g _ (List.getElem_mem (by omega : n < b.length))
  · intro g x hx
    obtain ⟨i, hi⟩ := List.getElem?_of_mem hx
    have := g i (by have := (List.getElem?_eq_some_iff.1 hi).1; omega)
    rw [getD_get hi] at this
    simpa using this
/-- Nothing of a lies in b: it stays. -/
theorem bcuts_len (a b : Bx) : ∀ n, (bcuts a b n).length ≤ n
  | 0 => Nat.le_refl _
  | n + 1 => by
    unfold bcuts
    rw [List.length_append]
    have := bcuts_len a b n
    split <;> simp <;> omega
theorem bempty_has {b : Bx} (hl : b.length = 4) (h : bempty b = true) (p : Pk) : bhas b p = false := by
  rw [← Bool.not_eq_true, bhas_iff]
  intro g
  rw [← Bool.not_eq_false, bempty_iff hl] at h
  refine h (fun n hn => ?_)
  have := g n hn
  cases e : (b.getD n []).isEmpty
  · rfl
  · rw [List.isEmpty_iff] at e; rw [e] at this; simp [shas] at this
theorem str_drop (a : List Sp) (i : Nat) (c t : Int) : str (a.drop i) 0 c t = str a i c t := by
  unfold str
  rw [List.getElem?_drop, Nat.add_zero]
set_option maxHeartbeats 1000000 in
theorem stretch_any {lo : Nat} (xs : List Sp) (v : Value) (c t : Int) (w : World) (hs : Sps lo w v xs) (hg : ∀ x, xs[0]? = some x → -1000000 ≤ x.lo ∧ x.lo ≤ 1000000) :
    Calls Tryd.prog 120 #[v, .int .i64 c, .int .i64 t] w fun e w' => e = .returned (.tuple #[.bool (str xs 0 c t).1, .int .i64 (str xs 0 c t).2]) ∧ Below w.heap.size w w' := by
  obtain ⟨a, cap, rfl, hlc, hcm⟩ := hs.form
  unfold maxLen at hcm
  cases xs with
  | nil =>
    go_enter Tryd.func120, Tryd.ntmps120
    go_wp2
    go_ret2
    exact ⟨rfl, by (repeat' (first | with_reducible exact Below.refl _ _ | with_reducible assumption | with_reducible refine Below.setCell ?_ ?_ _ | with_reducible refine Below.alloc ?_ ?_ _ | with_reducible refine Below.drew ?_ | with_reducible refine belDrewN ?_ _ | with_reducible refine Below.trans ?_ (Below.mono (by assumption) ?_) | omega | (simp; omega) | (simp; done)))⟩
  | cons x xs =>
    obtain ⟨b, o, f1, f2, rfl, hbl, hx1, c0, c1⟩ := hs.at (show 0 < (x :: xs).length by simp)
    simp at hx1
    have h1 := (hg x rfl).1
    have h2 := (hg x rfl).2
    clear hg
    subst hx1
    simp only [Nat.zero_mul, Nat.add_zero] at c0 c1
    have hne : (((xs.length + 1 : Nat) : Int) == 0) = false := by simp; omega
    have hpos : (0 : Int) < ((xs.length + 1 : Nat) : Int) := by omega
    have hst : str (⟨f1, f2⟩ :: xs) 0 c t = if c < f1 then (false, f1 - 1) else (true, f2) := rfl
    rw [hst]
    simp only [List.length_cons] at hlc hs ⊢
    generalize xs.length + 1 = n at *
    clear hs hst
    by_cases hlt : c < f1
    · rw [if_pos hlt]
      go_enter Tryd.func120, Tryd.ntmps120
      go_wp2_with fail
      refine wp_region_over (by kernel_rfl) (by kernel_rfl) (fun ov => ?_); have ov0 := fun x => ov x (b) (by (try simp) <;> omega); clear ov; (iterate 9 (iterate 8 (try go_big_quiet_step (first | fail)))); refine wpQuiet_nil ?_; intro w8 hw9; have hb_w8 := below_over hw9; clear hw9 ov0
      go_wp2
      go_ret2
      exact ⟨rfl, hb_w8⟩
    · rw [if_neg hlt]
      go_enter Tryd.func120, Tryd.ntmps120
      go_wp2_with fail
      refine wp_region_over (by kernel_rfl) (by kernel_rfl) (fun ov => ?_); have ov0 := fun x => ov x (b) (by (try simp) <;> omega); clear ov; (iterate 9 (iterate 8 (try go_big_quiet_step (first | fail)))); refine wpQuiet_nil ?_; intro w8 hw9; have hb_w8 := below_over hw9; clear hw9 ov0
      go_wp2
      go_ret2
      exact ⟨rfl, hb_w8⟩
theorem stretch_b {lo : Nat} {xs : List Sp} {v : Value} {c t e : Int} {r : Bool} {w : World} (hs : Sps lo w v xs) (hg : ∀ x, xs[0]? = some x → -1000000 ≤ x.lo ∧ x.lo ≤ 1000000) (h : str xs 0 c t = (r, e)) :
    Calls Tryd.prog 120 #[v, .int .i64 c, .int .i64 t] w fun e' w' => e' = .returned (.tuple #[.bool r, .int .i64 e]) ∧ Below w.heap.size w w' := by
  have := stretch_any xs v c t w hs hg
  rwa [h] at this
theorem Sps.dropS {lo : Nat} {w : World} {a : Option Addr} {n cap : Nat} {xs : List Sp} (h : Sps lo w (.slice a n cap) xs) {k : Nat} (hk : k ≤ n) : Sps 0 w (.slice (dropA a cap k 2) (n - k) (cap - k)) (xs.drop k) :=
  SlFr.of (SlAt.drop (SlFr.at h) hk)
theorem wpList_slice_from {P : Program} {ops : Array Oper} {rest : List Oper} {o : Oper} {ac : Act} {w : World} {Q : Exit → Act → World → Prop} {t e : TypeId} {x y : Operand} (ho : o.op = .slice t x (some y) none none) (hgd : o.guard = none) {i : TypeInfo} {sz : Nat} (ht : P.underlying t = some (.slice e)) (hi : P.info? e = some i) (hsz : i.size = sz)
    {a : Option Addr} {n cap k : Nat} (hx : ac.eval x = .slice a n cap) (hy : ac.eval y = .int .i64 k) (hk : k ≤ n) (h : wpList P ops Q rest (ac.put o.dst (.slice (dropA a cap k sz) (n - k) (cap - k))) w) : wpList P ops Q (o :: rest) ac w :=
  wpList_plain hgd fun _ hK => wp_slice_from ho ht hi hsz hx hy hk (hK _ _ h)
theorem inBoth_any (p q : Bool) (w : World) : Calls Tryd.prog 121 #[.bool p, .bool q] w fun e w' => e = .returned (.bool (kMeet p q)) ∧ w = w' := by
  cases p <;> cases q <;> (go_enter Tryd.func121, Tryd.ntmps121; go_wp2; go_ret; exact ⟨rfl, rfl⟩)
theorem inFirstOnly_any (p q : Bool) (w : World) : Calls Tryd.prog 99 #[.bool p, .bool q] w fun e w' => e = .returned (.bool (kLess p q)) ∧ w = w' := by
  cases p <;> cases q <;> (go_enter Tryd.func99, Tryd.ntmps99; go_wp2; go_ret; exact ⟨rfl, rfl⟩)
theorem inEither_any (p q : Bool) (w : World) : Calls Tryd.prog 117 #[.bool p, .bool q] w fun e w' => e = .returned (.bool (kUni p q)) ∧ w = w' := by
  cases p <;> cases q <;> (go_enter Tryd.func117, Tryd.ntmps117; go_wp2; go_ret; exact ⟨rfl, rfl⟩)
theorem inBoth_b {p q r : Bool} (w : World) (h : kMeet p q = r) : Calls Tryd.prog 121 #[.bool p, .bool q] w fun e w' => e = .returned (.bool r) ∧ w = w' := by subst h; exact inBoth_any p q w
theorem inFirstOnly_b {p q r : Bool} (w : World) (h : kLess p q = r) : Calls Tryd.prog 99 #[.bool p, .bool q] w fun e w' => e = .returned (.bool r) ∧ w = w' := by subst h; exact inFirstOnly_any p q w
theorem inEither_b {p q r : Bool} (w : World) (h : kUni p q = r) : Calls Tryd.prog 117 #[.bool p, .bool q] w fun e w' => e = .returned (.bool r) ∧ w = w' := by subst h; exact inEither_any p q w
end Go.Proofs.YtajcogpfmpehkaaDoor
