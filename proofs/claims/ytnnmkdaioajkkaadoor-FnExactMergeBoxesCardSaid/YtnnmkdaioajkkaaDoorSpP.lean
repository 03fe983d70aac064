/- Sets of numbers as lists of ranges: plain definitions and laws. -/
import Derived.Test.YtnnmkdaioajkkaaDoorBase
namespace Go.Proofs.YtnnmkdaioajkkaaDoor
open Go.RowKit
/-- A range of numbers. -/
structure Sp where
  lo : Int
  hi : Int
  deriving DecidableEq
def shas (xs : List Sp) (n : Int) : Bool := xs.any fun s => inB n s.lo s.hi
/-- In order from m on, with gaps, up to h. -/
def sgood (h : Int) : Int → List Sp → Bool
  | _, [] => true
  | m, s :: xs => decide (m ≤ s.lo) && decide (s.lo ≤ s.hi) && decide (s.hi ≤ h) && sgood h (s.hi + 2) xs
def svalid (xs : List Sp) (t : Int) : Bool := inB t 0 65535 && decide (xs.length ≤ 40) && sgood t 0 xs
theorem sgood_cons {h m : Int} {s : Sp} {xs : List Sp} : sgood h m (s :: xs) = true ↔ m ≤ s.lo ∧ s.lo ≤ s.hi ∧ s.hi ≤ h ∧ sgood h (s.hi + 2) xs = true := by
  simp [sgood, and_assoc]
theorem sgood_mono {h m m' : Int} {xs : List Sp} (hg : sgood h m xs = true) (hm : m' ≤ m) : sgood h m' xs = true := by
  cases xs with
  | nil => rfl
  | cons s xs => rw [sgood_cons] at hg ⊢; exact ⟨by omega, hg.2⟩
theorem sgood_top {h h' : Int} : ∀ {m : Int} {xs : List Sp}, sgood h m xs = true → h ≤ h' → sgood h' m xs = true
  | _, [], _, _ => rfl
  | m, s :: xs, hg, hh => by
    rw [sgood_cons] at hg ⊢
    exact ⟨hg.1, hg.2.1, by omega, sgood_top hg.2.2.2 hh⟩
theorem shas_cons {s : Sp} {xs : List Sp} {n : Int} : shas (s :: xs) n = (inB n s.lo s.hi || shas xs n) := by simp [shas]
theorem shas_append {xs ys : List Sp} {n : Int} : shas (xs ++ ys) n = (shas xs n || shas ys n) := by simp [shas]
theorem shas_ge {h : Int} : ∀ {m : Int} {xs : List Sp} {n : Int}, sgood h m xs = true → shas xs n = true → m ≤ n ∧ n ≤ h
  | _, [], _, _, hn => by simp [shas] at hn
  | m, s :: xs, n, hg, hn => by
    rw [sgood_cons] at hg
    rw [shas_cons, Bool.or_eq_true, inB_iff] at hn
    rcases hn with hn | hn
    · omega
    · have := shas_ge hg.2.2.2 hn
      omega
theorem shas_lt {h m : Int} {xs : List Sp} {n : Int} (hg : sgood h m xs = true) (hn : n < m) : shas xs n = false := by
  cases hs : shas xs n
  · rfl
  · have := (shas_ge hg hs).1; omega
/-- A set has one form alone. -/
theorem sgood_ext {h h' : Int} : ∀ {m m' : Int} {xs ys : List Sp}, sgood h m xs = true → sgood h' m' ys = true → (∀ n, shas xs n = shas ys n) → xs = ys
  | _, _, [], [], _, _, _ => rfl
  | _, _, [], t :: ys, _, hy, he => by
    rw [sgood_cons] at hy
    have := he t.lo
    rw [shas_cons, show inB t.lo t.lo t.hi = true from inB_iff.2 ⟨by omega, by omega⟩] at this
    simp [shas] at this
  | _, _, s :: xs, [], hx, _, he => by
    rw [sgood_cons] at hx
    have := he s.lo
    rw [shas_cons, show inB s.lo s.lo s.hi = true from inB_iff.2 ⟨by omega, by omega⟩] at this
    simp [shas] at this
  | m, m', s :: xs, t :: ys, hx, hy, he => by
    rw [sgood_cons] at hx hy
    have in1 : ∀ n, s.lo ≤ n → n ≤ s.hi → shas (t :: ys) n = true := fun n h1 h2 => by rw [← he, shas_cons, inB_iff.2 ⟨h1, h2⟩]; rfl
    have in2 : ∀ n, t.lo ≤ n → n ≤ t.hi → shas (s :: xs) n = true := fun n h1 h2 => by rw [he, shas_cons, inB_iff.2 ⟨h1, h2⟩]; rfl
    have ge1 : ∀ n, shas (t :: ys) n = true → (t.lo ≤ n ∧ n ≤ t.hi) ∨ t.hi + 2 ≤ n := fun n h => by
      rw [shas_cons, Bool.or_eq_true, inB_iff] at h
      exact h.imp id (fun h => (shas_ge hy.2.2.2 h).1)
    have ge2 : ∀ n, shas (s :: xs) n = true → (s.lo ≤ n ∧ n ≤ s.hi) ∨ s.hi + 2 ≤ n := fun n h => by
      rw [shas_cons, Bool.or_eq_true, inB_iff] at h
      exact h.imp id (fun h => (shas_ge hx.2.2.2 h).1)
    have a1 := ge1 _ (in1 s.lo (by omega) (by omega))
    have a2 := ge2 _ (in2 t.lo (by omega) (by omega))
    have elo : s.lo = t.lo := by omega
    have ehi : s.hi = t.hi := by
      rcases Int.lt_trichotomy s.hi t.hi with hlt | heq | hlt
      · have := ge2 _ (in2 (s.hi + 1) (by omega) (by omega)); omega
      · exact heq
      · have := ge1 _ (in1 (t.hi + 1) (by omega) (by omega)); omega
    have est : s = t := by cases s; cases t; simp_all
    subst est
    have : xs = ys := sgood_ext hx.2.2.2 hy.2.2.2 (fun n => by
      by_cases hn : n < s.hi + 2
      · rw [shas_lt hx.2.2.2 hn, shas_lt hy.2.2.2 hn]
      · have := he n
        rw [shas_cons, shas_cons, show inB n s.lo s.hi = false from by rw [← Bool.not_eq_true, inB_iff]; omega] at this
        simpa using this)
    rw [this]
theorem sgood_append {h hi : Int} : ∀ {m : Int} {xs ys : List Sp}, sgood h m xs = true → h ≤ hi → sgood hi (h + 2) ys = true → m ≤ h + 2 → sgood hi m (xs ++ ys) = true
  | m, [], ys, _, _, hy, hm => sgood_mono hy hm
  | m, s :: xs, ys, hx, hh, hy, hm => by
    rw [List.cons_append]
    rw [sgood_cons] at hx ⊢
    exact ⟨hx.1, hx.2.1, by omega, sgood_append hx.2.2.2 hh hy (by omega)⟩
/-- What two ranges have in common. -/
def meet1 (x y : Sp) : Option Sp := if max x.lo y.lo ≤ min x.hi y.hi then some ⟨max x.lo y.lo, min x.hi y.hi⟩ else none
def smeet (a b : List Sp) : List Sp := a.flatMap fun x => b.filterMap (meet1 x)
theorem smeet1_has (x : Sp) (n : Int) : ∀ b : List Sp, shas (b.filterMap (meet1 x)) n = (inB n x.lo x.hi && shas b n)
  | [] => by simp [shas]
  | y :: b => by
    rw [shas_cons, List.filterMap_cons]
    have ih := smeet1_has x n b
    unfold meet1 at ih ⊢
    by_cases hm : max x.lo y.lo ≤ min x.hi y.hi
    · rw [if_pos hm]
      simp only
      rw [shas_cons, ih]
      have : inB n (max x.lo y.lo) (min x.hi y.hi) = (inB n x.lo x.hi && inB n y.lo y.hi) := by
        rw [Bool.eq_iff_iff, Bool.and_eq_true, inB_iff, inB_iff, inB_iff]; omega
      rw [this]
      cases inB n x.lo x.hi <;> simp
    · rw [if_neg hm]
      simp only
      rw [ih]
      have : (inB n x.lo x.hi && inB n y.lo y.hi) = false := by
        rw [← Bool.not_eq_true, Bool.and_eq_true, inB_iff, inB_iff]; omega
      cases h1 : inB n x.lo x.hi <;> simp [h1] at this ⊢
      simp [this]
theorem smeet_has (b : List Sp) (n : Int) : ∀ a : List Sp, shas (smeet a b) n = (shas a n && shas b n)
  | [] => by simp [shas, smeet]
  | x :: a => by
    have ih := smeet_has b n a
    unfold smeet at ih ⊢
    rw [List.flatMap_cons, shas_append, smeet1_has, ih, shas_cons]
    cases inB n x.lo x.hi <;> cases shas a n <;> simp
theorem smeet1_good {h : Int} (x : Sp) : ∀ {m L : Int} {b : List Sp}, sgood h m b = true → L ≤ x.lo ∨ L ≤ m → sgood x.hi L (b.filterMap (meet1 x)) = true
  | _, _, [], _, _ => rfl
  | m, L, y :: b, hb, hL => by
    rw [sgood_cons] at hb
    rw [List.filterMap_cons]
    unfold meet1
    by_cases hm : max x.lo y.lo ≤ min x.hi y.hi
    · rw [if_pos hm]
      simp only
      rw [sgood_cons]
      refine ⟨?_, hm, by simp only; omega, smeet1_good x hb.2.2.2 (.inr (by simp only; omega))⟩
      simp only; omega
    · rw [if_neg hm]
      exact smeet1_good x hb.2.2.2 (by omega)
theorem smeet_good {h h' m' : Int} {b : List Sp} (hb : sgood h' m' b = true) : ∀ {m : Int} {a : List Sp}, sgood h m a = true → sgood h m (smeet a b) = true
  | _, [], _ => rfl
  | m, x :: a, ha => by
    rw [sgood_cons] at ha
    have ih := smeet_good hb ha.2.2.2
    unfold smeet at ih ⊢
    rw [List.flatMap_cons]
    exact sgood_append (smeet1_good x hb (.inl ha.1)) ha.2.2.1 ih (by omega)
/-- The numbers from at to t that a set leaves. -/
def sother (t : Int) : Int → List Sp → List Sp
  | at', [] => if at' ≤ t then [⟨at', t⟩] else []
  | at', s :: xs => (if at' < s.lo then [⟨at', s.lo - 1⟩] else []) ++ sother t (s.hi + 1) xs
theorem sother_has {t : Int} (n : Int) : ∀ {k : Int} {xs : List Sp}, sgood t k xs = true → shas (sother t k xs) n = (inB n k t && !shas xs n)
  | k, [], _ => by
    unfold sother
    split
    · simp [shas]
    · rw [show inB n k t = false from by rw [← Bool.not_eq_true, inB_iff]; omega]; simp [shas]
  | k, s :: xs, hg => by
    rw [sgood_cons] at hg
    unfold sother
    rw [shas_append, sother_has n (sgood_mono hg.2.2.2 (by omega)), shas_cons]
    have key : shas (if k < s.lo then [(⟨k, s.lo - 1⟩ : Sp)] else []) n = inB n k (s.lo - 1) := by
      split
      · simp [shas]
      · rw [show inB n k (s.lo - 1) = false from by rw [← Bool.not_eq_true, inB_iff]; omega]; simp [shas]
    rw [key]
    cases hs : shas xs n
    · rw [Bool.eq_iff_iff]
      simp only [Bool.or_eq_true, Bool.and_eq_true, inB_iff, Bool.not_eq_true', Bool.or_false, Bool.not_false, and_true]
      rw [← Bool.not_eq_true, inB_iff]
      omega
    · have := (shas_ge hg.2.2.2 hs).1
      rw [show inB n k (s.lo - 1) = false from by rw [← Bool.not_eq_true, inB_iff]; omega]
      simp
theorem sother_good {t : Int} : ∀ {k : Int} {xs : List Sp}, sgood t k xs = true → sgood t k (sother t k xs) = true
  | k, [], _ => by
    unfold sother
    split
    · rw [sgood_cons]; exact ⟨by simp, by simpa, by simp, rfl⟩
    · rfl
  | k, s :: xs, hg => by
    rw [sgood_cons] at hg
    unfold sother
    have ih := sother_good (t := t) (sgood_mono (m' := s.hi + 1) hg.2.2.2 (by omega))
    split
    · rw [List.singleton_append, sgood_cons]
      exact ⟨by simp, by simp only; omega, by simp only; omega, by simp only; exact sgood_mono ih (by omega)⟩
    · rw [List.nil_append]
      exact sgood_mono ih (by omega)
/-- A range is added to a set. -/
def sadd : List Sp → Bool → Sp → List Sp
  | [], p, s => if p then [] else [s]
  | x :: xs, p, s => if x.hi + 1 < s.lo then x :: sadd xs p s
    else if s.hi + 1 < x.lo then (if p then x :: sadd xs p s else s :: x :: sadd xs true s)
    else sadd xs p ⟨min s.lo x.lo, max s.hi x.hi⟩
theorem sadd_placed {h : Int} : ∀ {xs : List Sp} {m : Int} {s : Sp}, sgood h m xs = true → s.hi + 1 < m → sadd xs true s = xs
  | [], _, _, _, _ => rfl
  | x :: xs, m, s, hg, hm => by
    have hg' := hg
    rw [sgood_cons] at hg
    unfold sadd
    by_cases h1 : x.hi + 1 < s.lo
    · rw [if_pos h1, sadd_placed hg.2.2.2 (by omega)]
    · rw [if_neg h1, if_pos (by omega), if_pos rfl, sadd_placed hg.2.2.2 (by omega)]
theorem sadd_has {h : Int} (n : Int) : ∀ {xs : List Sp} {m : Int} {s : Sp}, sgood h m xs = true → s.lo ≤ s.hi → shas (sadd xs false s) n = (inB n s.lo s.hi || shas xs n)
  | [], _, _, _, _ => by simp [sadd, shas]
  | x :: xs, m, s, hg, hs => by
    rw [sgood_cons] at hg
    unfold sadd
    by_cases h1 : x.hi + 1 < s.lo
    · rw [if_pos h1, shas_cons, shas_cons, sadd_has n hg.2.2.2 hs]
      cases inB n s.lo s.hi <;> cases inB n x.lo x.hi <;> simp
    · rw [if_neg h1]
      by_cases h2 : s.hi + 1 < x.lo
      · rw [if_pos h2]
        simp only [Bool.false_eq_true, if_false]
        rw [sadd_placed hg.2.2.2 (by omega), shas_cons]
      · rw [if_neg h2, sadd_has n hg.2.2.2 (by simp only; omega), shas_cons]
        have : inB n (min s.lo x.lo) (max s.hi x.hi) = (inB n s.lo s.hi || inB n x.lo x.hi) := by
          rw [Bool.eq_iff_iff, Bool.or_eq_true, inB_iff, inB_iff, inB_iff]; omega
        rw [this, Bool.or_assoc]
theorem sadd_good {h : Int} : ∀ {xs : List Sp} {m : Int} {s : Sp}, sgood h m xs = true → s.lo ≤ s.hi → s.hi ≤ h → sgood h (min m s.lo) (sadd xs false s) = true
  | [], m, s, _, h1, h2 => by
    unfold sadd
    simp only [Bool.false_eq_true, if_false]
    rw [sgood_cons]; exact ⟨by omega, h1, h2, rfl⟩
  | x :: xs, m, s, hg, h1, h2 => by
    have hg' := hg
    rw [sgood_cons] at hg
    unfold sadd
    by_cases h3 : x.hi + 1 < s.lo
    · rw [if_pos h3, sgood_cons]
      exact ⟨by omega, hg.2.1, hg.2.2.1, sgood_mono (sadd_good hg.2.2.2 h1 h2) (by omega)⟩
    · rw [if_neg h3]
      by_cases h4 : s.hi + 1 < x.lo
      · rw [if_pos h4]
        simp only [Bool.false_eq_true, if_false]
        rw [sadd_placed hg.2.2.2 (by omega), sgood_cons]
        exact ⟨by omega, h1, h2, sgood_cons.2 ⟨by omega, hg.2.1, hg.2.2.1, hg.2.2.2⟩⟩
      · rw [if_neg h4]
        exact sgood_mono (sadd_good (s := ⟨min s.lo x.lo, max s.hi x.hi⟩) hg.2.2.2 (by simp only; omega) (by simp only; omega)) (by simp only; omega)
end Go.Proofs.YtnnmkdaioajkkaaDoor
