/- Sweeping along two sets: plain laws. -/
import Derived.Test.YtnnmkdaioajkkaaDoorFsP
namespace Go.Proofs.YtnnmkdaioajkkaaDoor
open Go.RowKit
theorem shas_none {xs : List Sp} {n : Int} (h : ∀ (k : Nat) x, xs[k]? = some x → inB n x.lo x.hi = false) : shas xs n = false := by
  unfold shas
  rw [List.any_eq_false]
  intro x hx
  obtain ⟨k, hk⟩ := List.getElem?_of_mem hx
  simpa using h k x hk
theorem inB_no {n lo hi : Int} (h : n < lo ∨ hi < n) : inB n lo hi = false := by
  cases e : inB n lo hi
  · rfl
  · rw [inB_iff] at e; omega
/-- Whether number c is in the set of which the ranges before i are over, and how long that stays so. -/
def str (a : List Sp) (i : Nat) (c t : Int) : Bool × Int := match a[i]? with
  | none => (false, t)
  | some x => if c < x.lo then (false, x.lo - 1) else (true, x.hi)
def Past (a : List Sp) (i : Nat) (c : Int) : Prop := ∀ (k : Nat) x, k < i → a[k]? = some x → x.hi < c
theorem Past.zero (a : List Sp) (c : Int) : Past a 0 c := fun k x h => by omega
theorem Past.step {a : List Sp} {i : Nat} {c : Int} {x : Sp} (h : Past a i c) (hx : a[i]? = some x) (hl : x.hi < c) : Past a (i + 1) c := fun k y hk hy => by
  by_cases e : k = i
  · subst e; rw [hx] at hy; cases hy; exact hl
  · exact h k y (by omega) hy
theorem Past.mono {a : List Sp} {i : Nat} {c c' : Int} (h : Past a i c) (hc : c ≤ c') : Past a i c' := fun k x hk hx => by
  have := h k x hk hx
  omega
theorem str_spec {a : List Sp} {i : Nat} {c t m : Int} (hg : sgood t m a = true) (hp : Past a i c) (hq : ∀ x, a[i]? = some x → c ≤ x.hi) (hc : c ≤ t) :
    c ≤ (str a i c t).2 ∧ (str a i c t).2 ≤ t ∧ ∀ n, c ≤ n → n ≤ (str a i c t).2 → shas a n = (str a i c t).1 := by
  unfold str
  cases hx : a[i]? with
  | none =>
    refine ⟨hc, Int.le_refl _, fun n h1 h2 => shas_none (fun k x hk => inB_no (.inr ?_))⟩
    have e1 := List.getElem?_eq_none_iff.1 hx
    have e2 := (List.getElem?_eq_some_iff.1 hk).1
    have := hp k x (by omega) hk
    omega
  | some x =>
    have g := sgood_get hg hx
    by_cases hlt : c < x.lo
    · simp only [if_pos hlt]
      refine ⟨by omega, by omega, fun n h1 h2 => shas_none (fun k y hk => inB_no ?_)⟩
      by_cases hk' : k < i
      · exact .inr (by have := hp k y hk' hk; omega)
      · by_cases e : k = i
        · subst e; rw [hx] at hk; cases hk; exact .inl (by omega)
        · exact .inl (by have := sgood_lt hg hx hk (by omega); omega)
    · simp only [if_neg hlt]
      exact ⟨hq x hx, g.2.2, fun n h1 h2 => shas_hit hx (inB_iff.2 ⟨by omega, h2⟩)⟩
theorem sgood_left {h : Int} : ∀ {m : Int} {xs ys : List Sp}, sgood h m (xs ++ ys) = true → sgood h m xs = true
  | _, [], _, _ => rfl
  | m, x :: xs, ys, hg => by
    rw [List.cons_append, sgood_cons] at hg
    rw [sgood_cons]
    exact ⟨hg.1, hg.2.1, hg.2.2.1, sgood_left hg.2.2.2⟩
theorem sgood_snoc {h h' : Int} {s : Sp} : ∀ {m : Int} {xs : List Sp}, sgood h m xs = true → m ≤ s.lo → s.lo ≤ s.hi → s.hi ≤ h' → h ≤ h' → (∀ (k : Nat) x, k + 1 = xs.length → xs[k]? = some x → x.hi + 2 ≤ s.lo) → sgood h' m (xs ++ [s]) = true
  | m, [], _, h1, h2, h3, _, _ => by rw [List.nil_append, sgood_cons]; exact ⟨h1, h2, h3, rfl⟩
  | m, x :: xs, hg, h1, h2, h3, h4, hl => by
    rw [sgood_cons] at hg
    rw [List.cons_append, sgood_cons]
    refine ⟨hg.1, hg.2.1, by omega, sgood_snoc hg.2.2.2 ?_ h2 h3 h4 (fun k y hk hy => hl (k + 1) y (by simp; omega) (by simpa using hy))⟩
    cases xs with
    | nil => exact hl 0 x rfl rfl
    | cons z zs =>
      obtain ⟨y, hy⟩ : ∃ y, (z :: zs)[zs.length]? = some y := ⟨_, List.getElem?_eq_getElem (by simp)⟩
      have g := sgood_get hg.2.2.2 hy
      have g2 := hl (zs.length + 1) y (by simp) (by simpa using hy)
      omega
theorem sgood_len {h : Int} : ∀ {m : Int} {xs : List Sp}, sgood h m xs = true → (xs.length : Int) = 0 ∨ 2 * (xs.length : Int) ≤ h - m + 2
  | m, [], _ => .inl rfl
  | m, x :: xs, hg => by
    rw [sgood_cons] at hg
    have := sgood_len hg.2.2.2
    right
    simp only [List.length_cons]
    omega
/-- What the sweep has found before number c. -/
def SW (K : Bool → Bool → Bool) (a b : List Sp) (c : Int) (ys : List Sp) : Prop := sgood (c - 1) 0 ys = true ∧ ∀ n, shas ys n = (inB n 0 (c - 1) && K (shas a n) (shas b n))
theorem SW.nil (K : Bool → Bool → Bool) (a b : List Sp) : SW K a b 0 [] := ⟨rfl, fun n => by
  rw [show inB n 0 (0 - 1) = false from by cases e : inB n 0 (0 - 1); rfl; rw [inB_iff] at e; omega]; rfl⟩
theorem inB_cut {n c e : Int} (h0 : 0 ≤ c) (h1 : c ≤ e) : inB n 0 (e + 1 - 1) = (inB n 0 (c - 1) || inB n c e) := by
  rw [Bool.eq_iff_iff, Bool.or_eq_true, inB_iff, inB_iff, inB_iff]
  omega
theorem SW.skip {K : Bool → Bool → Bool} {a b : List Sp} {c e : Int} {ys : List Sp} (h : SW K a b c ys) (h0 : 0 ≤ c) (h1 : c ≤ e) (hk : ∀ n, c ≤ n → n ≤ e → K (shas a n) (shas b n) = false) : SW K a b (e + 1) ys := by
  refine ⟨sgood_top h.1 (by omega), fun n => ?_⟩
  rw [h.2, inB_cut h0 h1]
  cases e1 : inB n 0 (c - 1)
  · cases e2 : inB n c e
    · rfl
    · rw [inB_iff] at e2
      rw [hk n e2.1 e2.2]
      rfl
  · rfl
theorem SW.has {K : Bool → Bool → Bool} {a b : List Sp} {c e : Int} {ys : List Sp} (h : SW K a b c ys) (h0 : 0 ≤ c) (h1 : c ≤ e) (hk : ∀ n, c ≤ n → n ≤ e → K (shas a n) (shas b n) = true) (n : Int) : (shas ys n || inB n c e) = (inB n 0 (e + 1 - 1) && K (shas a n) (shas b n)) := by
  rw [h.2, inB_cut h0 h1]
  cases e1 : inB n 0 (c - 1)
  · cases e2 : inB n c e
    · rfl
    · rw [inB_iff] at e2
      rw [hk n e2.1 e2.2]
      rfl
  · cases e2 : inB n c e
    · simp
    · rw [inB_iff] at e1 e2; omega
theorem SW.push {K : Bool → Bool → Bool} {a b : List Sp} {c e : Int} {ys : List Sp} (h : SW K a b c ys) (h0 : 0 ≤ c) (h1 : c ≤ e) (hk : ∀ n, c ≤ n → n ≤ e → K (shas a n) (shas b n) = true)
    (hl : ∀ (k : Nat) x, k + 1 = ys.length → ys[k]? = some x → x.hi + 1 ≠ c) : SW K a b (e + 1) (ys ++ [⟨c, e⟩]) := by
  refine ⟨sgood_snoc h.1 h0 h1 (by simp only; omega) (by omega) (fun k x hk hx => ?_), fun n => ?_⟩
  · have g := sgood_get h.1 hx
    have := hl k x hk hx
    simp only
    omega
  · rw [shas_append, ← h.has h0 h1 hk n]
    simp [shas]
theorem set_last {α : Type} {ys : List α} {k : Nat} {y : α} (hk : k + 1 = ys.length) : ys.set k y = ys.take k ++ [y] := by
  rw [List.set_eq_take_append_cons_drop, if_pos (by omega), List.drop_of_length_le (by omega)]
theorem take_last {α : Type} {ys : List α} {k : Nat} {s : α} (hk : k + 1 = ys.length) (hs : ys[k]? = some s) : ys = ys.take k ++ [s] := by
  conv => lhs; rw [← List.take_length (l := ys), ← hk, List.take_add_one, hs]
  rfl
theorem SW.grow {K : Bool → Bool → Bool} {a b : List Sp} {c e : Int} {ys : List Sp} {k : Nat} {s : Sp} (h : SW K a b c ys) (h0 : 0 ≤ c) (h1 : c ≤ e) (hk : ∀ n, c ≤ n → n ≤ e → K (shas a n) (shas b n) = true)
    (hl : k + 1 = ys.length) (hs : ys[k]? = some s) (he : s.hi + 1 = c) : SW K a b (e + 1) (ys.set k ⟨s.lo, e⟩) := by
  have g := sgood_get h.1 hs
  have ht := take_last hl hs
  have hgt : sgood (c - 1) 0 (ys.take k) = true := by have := h.1; rw [ht] at this; exact sgood_left this
  rw [set_last hl]
  refine ⟨sgood_snoc hgt (by simp only; omega) (by simp only; omega) (by simp only; omega) (by omega) (fun j x hj hx => ?_), fun n => ?_⟩
  · rw [List.length_take] at hj
    rw [List.getElem?_take_of_lt (show j < k by omega)] at hx
    have := sgood_lt h.1 hx hs (show j < k by omega)
    simpa using this
  · rw [shas_append, ← h.has h0 h1 hk n]
    conv => rhs; rw [ht, shas_append]
    rw [Bool.or_assoc]
    congr 1
    simp only [shas, List.any_cons, List.any_nil, Bool.or_false]
    rw [Bool.eq_iff_iff, Bool.or_eq_true, inB_iff, inB_iff, inB_iff]
    omega
def kMeet (p q : Bool) : Bool := p && q
def kLess (p q : Bool) : Bool := p && !q
def kUni (p q : Bool) : Bool := p || q
theorem SW.meet {a b ys : List Sp} {t : Int} (h : SW kMeet a b (t + 1) ys) (ha : sgood t 0 a = true) (hb : sgood t 0 b = true) : ys = smeet a b := by
  refine sgood_ext h.1 (smeet_good hb ha) (fun n => ?_)
  rw [h.2, smeet_has]
  unfold kMeet
  cases e : shas a n
  · simp
  · have := shas_ge ha e
    rw [show inB n 0 (t + 1 - 1) = true from inB_iff.2 ⟨by omega, by omega⟩]
    simp
theorem SW.less {a b ys : List Sp} {t : Int} (h : SW kLess a b (t + 1) ys) (ha : sgood t 0 a = true) (hb : sgood t 0 b = true) : ys = smeet a (sother t 0 b) := by
  refine sgood_ext h.1 (smeet_good (sother_good hb) ha) (fun n => ?_)
  rw [h.2, smeet_has, sother_has n hb]
  unfold kLess
  cases e : shas a n
  · simp
  · have := shas_ge ha e
    rw [show inB n 0 (t + 1 - 1) = true from inB_iff.2 ⟨by omega, by omega⟩, show inB n 0 t = true from inB_iff.2 ⟨by omega, by omega⟩]
    all_goals simp
/-- The union of two sets, range by range. -/
def suni (a : List Sp) : List Sp → List Sp
  | [] => a
  | y :: b => suni (sadd a false y) b
theorem suni_good {t : Int} : ∀ {m m' : Int} {b a : List Sp}, sgood t m b = true → sgood t m' a = true → ∃ m'', sgood t m'' (suni a b) = true
  | _, m', [], a, _, ha => ⟨m', ha⟩
  | m, m', y :: b, a, hb, ha => by
    rw [sgood_cons] at hb
    unfold suni
    exact suni_good hb.2.2.2 (sadd_good ha hb.2.1 hb.2.2.1)
theorem suni_has {t : Int} (n : Int) : ∀ {m m' : Int} {b a : List Sp}, sgood t m b = true → sgood t m' a = true → shas (suni a b) n = (shas a n || shas b n)
  | _, m', [], a, _, ha => by simp [suni, shas]
  | m, m', y :: b, a, hb, ha => by
    rw [sgood_cons] at hb
    unfold suni
    rw [suni_has n hb.2.2.2 (sadd_good ha hb.2.1 hb.2.2.1), sadd_has n ha hb.2.1, shas_cons]
    cases shas a n <;> cases inB n y.lo y.hi <;> rfl
theorem SW.uni {a b ys : List Sp} {t : Int} (h : SW kUni a b (t + 1) ys) (ha : sgood t 0 a = true) (hb : sgood t 0 b = true) : ys = suni a b := by
  obtain ⟨m, hm⟩ := suni_good hb ha
  refine sgood_ext h.1 hm (fun n => ?_)
  rw [h.2, suni_has n hb ha]
  unfold kUni
  cases e : shas a n
  · cases e2 : shas b n
    · simp
    · have := shas_ge hb e2
      rw [show inB n 0 (t + 1 - 1) = true from inB_iff.2 ⟨by omega, by omega⟩]
      rfl
  · have := shas_ge ha e
    rw [show inB n 0 (t + 1 - 1) = true from inB_iff.2 ⟨by omega, by omega⟩]
    rfl
end Go.Proofs.YtnnmkdaioajkkaaDoor
