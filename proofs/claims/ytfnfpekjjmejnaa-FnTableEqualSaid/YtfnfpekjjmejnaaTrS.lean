/- The longest prefix, by the list and by the trie: plain laws. -/
import Derived.Test.YtfnfpekjjmejnaaTrP
namespace Go.Proofs.Ytfnfpekjjmejnaa
open Go.RowKit
def En.path (e : En) : Path := pth e.w.b.toNat e.w.l.toNat
def valsOf (xs : List En) : Path → Int := xs.foldl (fun val e => updV val e.path e.v) (fun _ => -1)
theorem valsOf_snoc (xs : List En) (e : En) : valsOf (xs ++ [e]) = updV (valsOf xs) e.path e.v := by simp [valsOf]
/-- A valid prefix's numbers. -/
theorem pf_nat' {p : Pf} (h : p.ok = true) : ∃ m k : Nat, p = ⟨m, k⟩ ∧ k ≤ 16 ∧ m ≤ 65535 ∧ m % 2 ^ (16 - k) = 0 := by
  obtain ⟨b, l⟩ := p
  obtain ⟨⟨h1, h2⟩, ⟨h3, h4⟩, h5⟩ := (pf_ok_iff _).1 h
  simp only at h1 h2 h3 h4 h5
  obtain ⟨k, rfl⟩ := Int.eq_ofNat_of_zero_le h1
  obtain ⟨m, rfl⟩ := Int.eq_ofNat_of_zero_le h3
  refine ⟨m, k, rfl, by omega, by omega, ?_⟩
  rw [pwr_nat (by omega)] at h5
  have hq : ((2 ^ (16 - k) : Nat) : Int) = (2 : Int) ^ (16 - k) := by norm_cast
  rw [← hq] at h5
  omega
theorem mul_div_eq {m B : Nat} (h : m % B = 0) : B * (m / B) = m := by have := Nat.div_add_mod m B; omega
theorem within_path {a b : Pf} (ha : a.ok = true) (hb : b.ok = true) : Pf.within a b = true ↔ (b.l ≤ a.l ∧ pth b.b.toNat b.l.toNat = pth a.b.toNat b.l.toNat) := by
  have ha0 := ha
  have hb0 := hb
  obtain ⟨m, k, rfl, hk, hm, h0⟩ := pf_nat' ha
  obtain ⟨m', k', rfl, hk', hm', h0'⟩ := pf_nat' hb
  have e1 : ((2 ^ (16 - k) : Nat) : Int) = (2 : Int) ^ (16 - k) := by norm_cast
  have e2 : ((2 ^ (16 - k') : Nat) : Int) = (2 : Int) ^ (16 - k') := by norm_cast
  simp only [Pf.within, ha0, hb0, Bool.true_and, Pf.hi, pwr_nat hk, pwr_nat hk', ← e1, ← e2, Bool.and_eq_true, decide_eq_true_eq, Int.toNat_natCast, pth, Prod.mk.injEq, true_and]
  have key := within_nat hk hk' h0 h0'
  have hB : 0 < 2 ^ (16 - k') := Nat.two_pow_pos _
  have d1 := Nat.div_add_mod m (2 ^ (16 - k'))
  have d2 := mul_div_eq h0'
  constructor
  · rintro ⟨g1, g2⟩
    obtain ⟨g3, g4⟩ := key.1 ⟨by omega, by omega⟩
    refine ⟨by omega, ?_⟩
    have : 2 ^ (16 - k') * (m' / 2 ^ (16 - k')) = 2 ^ (16 - k') * (m / 2 ^ (16 - k')) := by omega
    exact Nat.eq_of_mul_eq_mul_left hB this
  · rintro ⟨g1, g2⟩
    rw [g2] at d2
    obtain ⟨g3, g4⟩ := key.2 ⟨by omega, by omega⟩
    exact ⟨by omega, by omega⟩
theorem path_inj {p q : Pf} (hp : p.ok = true) (hq : q.ok = true) (h : pth p.b.toNat p.l.toNat = pth q.b.toNat q.l.toNat) : p = q := by
  obtain ⟨m, k, rfl, hk, hm, h0⟩ := pf_nat' hp
  obtain ⟨m', k', rfl, hk', hm', h0'⟩ := pf_nat' hq
  simp only [pth, Int.toNat_natCast, Prod.mk.injEq] at h
  obtain ⟨rfl, h2⟩ := h
  have d1 := mul_div_eq h0
  have d2 := mul_div_eq h0'
  rw [h2, d2] at d1
  rw [d1]
theorem lt_trans' {a b c : Pf} (h : a.lt b = true) (k : b.lt c = true) : a.lt c = true := by
  simp only [Pf.lt, Bool.or_eq_true, Bool.and_eq_true, decide_eq_true_eq] at *
  omega
theorem lt_ne {a b : Pf} (h : a.lt b = true) : a ≠ b := by
  rintro rfl
  simp only [Pf.lt, Bool.or_eq_true, Bool.and_eq_true, decide_eq_true_eq] at h
  omega
theorem tgood_lt {xs : List En} (h : TGood xs xs.length) : ∀ (i d : Nat) x y, xs[i]? = some x → xs[i + d + 1]? = some y → x.w.lt y.w = true
  | i, 0, x, y, hx, hy => (h (i + 1) y (List.getElem?_eq_some_iff.1 hy).1 hy).2 i x rfl hx
  | i, d + 1, x, y, hx, hy => by
    have hlt := (List.getElem?_eq_some_iff.1 hy).1
    obtain ⟨z, hz⟩ : ∃ z, xs[i + d + 1]? = some z := ⟨_, List.getElem?_eq_getElem (by omega)⟩
    exact lt_trans' (tgood_lt h i d x z hx hz) ((h (i + d + 1 + 1) y hlt hy).2 (i + d + 1) z rfl hz)
theorem tgood_ok {xs : List En} (h : TGood xs xs.length) {i : Nat} {x : En} (hx : xs[i]? = some x) : x.ok = true := (h i x (List.getElem?_eq_some_iff.1 hx).1 hx).1
theorem en_ok {x : En} (h : x.ok = true) : x.w.ok = true ∧ 0 ≤ x.v ∧ x.v ≤ 99 := by
  simp only [En.ok, Bool.and_eq_true, inB_iff] at h
  exact h
theorem tgood_inj {xs : List En} (h : TGood xs xs.length) {i j : Nat} {x y : En} (hx : xs[i]? = some x) (hy : xs[j]? = some y) (he : x.w = y.w) : i = j := by
  rcases Nat.lt_trichotomy i j with hlt | rfl | hlt
  · exact absurd he (lt_ne (tgood_lt h i (j - i - 1) x y hx (by rw [show i + (j - i - 1) + 1 = j by omega]; exact hy)))
  · rfl
  · exact absurd he.symm (lt_ne (tgood_lt h j (i - j - 1) y x hy (by rw [show j + (i - j - 1) + 1 = i by omega]; exact hx)))
theorem valsOf_take {xs : List En} (h : TGood xs xs.length) {i : Nat} {x : En} (hx : xs[i]? = some x) : ∀ k, i < k → k ≤ xs.length → valsOf (xs.take k) x.path = x.v := by
  intro k
  induction k with
  | zero => intro hk; omega
  | succ k ih =>
    intro hik hk
    rw [List.take_succ_eq_append_getElem (by omega), valsOf_snoc]
    have hy := List.getElem?_eq_getElem (show k < xs.length by omega)
    simp only [updV]
    by_cases e : i = k
    · subst e
      rw [hy] at hx
      cases hx
      simp
    · rw [if_neg]
      · exact ih (by omega) (by omega)
      · intro he
        exact e (tgood_inj h hx hy (path_inj (en_ok (tgood_ok h hx)).1 (en_ok (tgood_ok h hy)).1 he))
theorem valsOf_get {xs : List En} (h : TGood xs xs.length) {i : Nat} {x : En} (hx : xs[i]? = some x) : valsOf xs x.path = x.v := by
  have := valsOf_take h hx xs.length (List.getElem?_eq_some_iff.1 hx).1 (Nat.le_refl _)
  rwa [List.take_length] at this
theorem valsOf_none {q : Path} : ∀ (xs : List En), (∀ x ∈ xs, x.path ≠ q) → valsOf xs q = -1 := by
  have gen : ∀ (xs : List En) (val : Path → Int), (∀ x ∈ xs, x.path ≠ q) → (xs.foldl (fun val e => updV val e.path e.v) val) q = val q := by
    intro xs
    induction xs with
    | nil => intro val _; rfl
    | cons x xs ih =>
      intro val h
      rw [List.foldl_cons, ih _ (fun y hy => h y (by simp [hy]))]
      simp only [updV]
      rw [if_neg (fun e => h x (by simp) e.symm)]
  exact fun xs h => gen xs _ h
/-- The spec's search for the longest prefix. -/
def sf (xs : List En) (p : Pf) (ex : Int) : Nat → Int
  | 0 => -1
  | k + 1 => match xs[k]? with
    | none => sf xs p ex k
    | some x => if (k : Int) ≠ ex ∧ Pf.within p x.w = true ∧ (sf xs p ex k < 0 ∨ ∀ y, xs[(sf xs p ex k).toNat]? = some y → y.w.l < x.w.l) then k else sf xs p ex k
def SfOk (xs : List En) (p : Pf) (ex : Int) (k : Nat) (r : Int) : Prop :=
  (r = -1 ∧ ∀ (i : Nat) x, i < k → xs[i]? = some x → (i : Int) ≠ ex → Pf.within p x.w = false) ∨
  ∃ (j : Nat) (y : En), j < k ∧ r = j ∧ (j : Int) ≠ ex ∧ xs[j]? = some y ∧ Pf.within p y.w = true ∧ ∀ (i : Nat) x, i < k → xs[i]? = some x → (i : Int) ≠ ex → Pf.within p x.w = true → x.w.l ≤ y.w.l
theorem sf_ok (xs : List En) (p : Pf) (ex : Int) : ∀ k, k ≤ xs.length → SfOk xs p ex k (sf xs p ex k)
  | 0, _ => .inl ⟨rfl, fun i x h => by omega⟩
  | k + 1, hk => by
    have ih := sf_ok xs p ex k (by omega)
    obtain ⟨x, hx⟩ : ∃ x, xs[k]? = some x := ⟨_, List.getElem?_eq_getElem (by omega)⟩
    simp only [sf, hx]
    generalize sf xs p ex k = r at *
    split
    · rename_i hc
      obtain ⟨c1, c2, c3⟩ := hc
      refine .inr ⟨k, x, by omega, rfl, c1, hx, c2, fun i z hi hz hne hw => ?_⟩
      rcases (by omega : i < k ∨ i = k) with hi | rfl
      · rcases ih with ⟨h1, h2⟩ | ⟨j, y, h1, h2, h3, h4, h5, h6⟩
        · rw [h2 i z hi hz hne] at hw; cases hw
        · have := h6 i z hi hz hne hw
          have := c3.resolve_left (by omega) y (by rw [h2]; simpa using h4)
          omega
      · rw [hx] at hz; cases hz; exact Int.le_refl _
    · rename_i hc
      rcases ih with ⟨h1, h2⟩ | ⟨j, y, h1, h2, h3, h4, h5, h6⟩
      · refine .inl ⟨h1, fun i z hi hz hne => ?_⟩
        rcases (by omega : i < k ∨ i = k) with hi | rfl
        · exact h2 i z hi hz hne
        · rw [hx] at hz; cases hz
          cases hw : Pf.within p x.w
          · rfl
          · exact absurd ⟨hne, hw, .inl (by omega)⟩ hc
      · refine .inr ⟨j, y, by omega, h2, h3, h4, h5, fun i z hi hz hne hw => ?_⟩
        rcases (by omega : i < k ∨ i = k) with hi | rfl
        · exact h6 i z hi hz hne hw
        · rw [hx] at hz; cases hz
          refine Int.not_lt.1 (fun hlt => hc ⟨hne, hw, .inr (fun y' hy' => ?_)⟩)
          rw [h2] at hy'
          simp only [Int.toNat_natCast] at hy'
          rw [h4] at hy'
          cases hy'
          exact hlt
theorem best_spec (val : Path → Int) (a : Nat) : ∀ D, (best val a D = -1 ∧ ∀ d, d < D → val (pth a d) < 0) ∨ ∃ d, d < D ∧ 0 ≤ val (pth a d) ∧ best val a D = val (pth a d) ∧ ∀ d', d < d' → d' < D → val (pth a d') < 0
  | 0 => .inl ⟨rfl, fun d h => by omega⟩
  | D + 1 => by
    simp only [best]
    by_cases h : 0 ≤ val (pth a D)
    · rw [if_pos h]
      exact .inr ⟨D, by omega, h, rfl, fun d' h1 h2 => by omega⟩
    · rw [if_neg h]
      rcases best_spec val a D with ⟨h1, h2⟩ | ⟨d, h1, h2, h3, h4⟩
      · refine .inl ⟨h1, fun d hd => ?_⟩
        rcases (by omega : d < D ∨ d = D) with hd | rfl
        · exact h2 d hd
        · omega
      · refine .inr ⟨d, by omega, h2, h3, fun d' g1 g2 => ?_⟩
        rcases (by omega : d' < D ∨ d' = D) with hd | rfl
        · exact h4 d' g1 hd
        · omega
/-- The trie's answer is the list's. -/
theorem best_find {xs : List En} (hg : TGood xs xs.length) {p : Pf} {ex : Int} {a D : Nat} (hD : D ≤ 17)
    (hin : ∀ (i : Nat) x, xs[i]? = some x → (((i : Int) ≠ ex ∧ Pf.within p x.w = true) ↔ (x.w.l.toNat < D ∧ x.path = pth a x.w.l.toNat))) {r : Int} (hr : SfOk xs p ex xs.length r) :
    best (valsOf xs) a D = (if r < 0 then -1 else match xs[r.toNat]? with | some y => y.v | none => -1) := by
  have inS : ∀ d, 0 ≤ valsOf xs (pth a d) → ∃ (i : Nat) (x : En), xs[i]? = some x ∧ x.path = pth a d ∧ x.w.l.toNat = d := by
    intro d hd
    by_cases hex : ∃ x ∈ xs, x.path = pth a d
    · obtain ⟨x, hx, he⟩ := hex
      obtain ⟨i, hi, rfl⟩ := List.getElem_of_mem hx
      exact ⟨i, xs[i], List.getElem?_eq_getElem hi, he, congrArg Prod.fst he⟩
    · rw [valsOf_none xs (fun x hx he => hex ⟨x, hx, he⟩)] at hd
      omega
  rcases hr with ⟨rfl, h2⟩ | ⟨j, y, h1, rfl, h3, h4, h5, h6⟩
  · rw [if_pos (by omega)]
    rcases best_spec (valsOf xs) a D with ⟨g1, _⟩ | ⟨d, g1, g2, _, _⟩
    · exact g1
    · obtain ⟨i, x, hx, he, hl⟩ := inS d g2
      obtain ⟨k1, k2⟩ := (hin i x hx).2 ⟨by omega, by rw [hl]; exact he⟩
      rw [h2 i x (List.getElem?_eq_some_iff.1 hx).1 hx k1] at k2
      cases k2
  · rw [if_neg (by omega)]
    simp only [Int.toNat_natCast, h4]
    obtain ⟨k1, k2⟩ := (hin j y h4).1 ⟨h3, h5⟩
    have hv := valsOf_get hg h4
    rw [k2] at hv
    have hy0 := (en_ok (tgood_ok hg h4)).2.1
    rcases best_spec (valsOf xs) a D with ⟨_, g2⟩ | ⟨d, g1, g2, g3, g4⟩
    · have := g2 _ k1; omega
    · obtain ⟨i, x, hx, he, hl⟩ := inS d g2
      obtain ⟨m1, m2⟩ := (hin i x hx).2 ⟨by omega, by rw [hl]; exact he⟩
      have hle := h6 i x (List.getElem?_eq_some_iff.1 hx).1 hx m1 m2
      have hx0 := (pf_ok_iff _).1 (en_ok (tgood_ok hg hx)).1
      have hyl := (pf_ok_iff _).1 (en_ok (tgood_ok hg h4)).1
      rcases Nat.lt_trichotomy d y.w.l.toNat with hlt | heq | hgt
      · have := g4 _ hlt k1; omega
      · rw [g3, heq, hv]
      · omega
end Go.Proofs.Ytfnfpekjjmejnaa
