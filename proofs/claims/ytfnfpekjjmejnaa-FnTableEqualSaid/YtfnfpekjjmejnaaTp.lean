/- Prefixes, entries and tables: plain definitions. -/
import Derived.Test.YtfnfpekjjmejnaaBase
namespace Go.Proofs.Ytfnfpekjjmejnaa
open Go.RowKit
structure Pf where
  b : Int
  l : Int
  deriving DecidableEq
structure En where
  w : Pf
  v : Int
  deriving DecidableEq
abbrev En.enc (e : En) : List Value := [.int .i64 e.w.b, .int .i64 e.w.l, .int .i64 e.v]
def pwr (l : Int) : Int := 2 ^ (16 - l).toNat
def Pf.ok (p : Pf) : Bool := inB p.l 0 16 && inB p.b 0 65535 && decide (p.b % pwr p.l = 0)
def Pf.hi (p : Pf) : Int := p.b + pwr p.l - 1
def Pf.within (a b : Pf) : Bool := a.ok && b.ok && decide (b.b ≤ a.b) && decide (a.hi ≤ b.hi)
def Pf.lt (a b : Pf) : Bool := decide (a.b < b.b) || (decide (a.b = b.b) && decide (a.l < b.l))
def En.ok (e : En) : Bool := e.w.ok && inB e.v 0 99
def cmpI (x y : Int) : Int := if x < y then -1 else if y < x then 1 else 0
def cmpP (a b : Pf) : Int := if cmpI a.b b.b = 0 then cmpI a.l b.l else cmpI a.b b.b
theorem cmpP_lt (a b : Pf) : a.lt b = decide (cmpP a b < 0) := by
  unfold Pf.lt cmpP cmpI
  by_cases h1 : a.b < b.b <;> by_cases h2 : b.b < a.b <;> by_cases h3 : a.l < b.l <;> by_cases h4 : b.l < a.l <;> simp [h1, h2, h3, h4] <;> omega
theorem pwr_pos (l : Int) : 1 ≤ pwr l := by
  unfold pwr
  have : (0 : Int) < 2 ^ (16 - l).toNat := Int.pow_pos (by omega)
  omega
theorem pwr_le {l : Int} (h : 0 ≤ l) : pwr l ≤ 65536 := by
  unfold pwr
  have h1 : (2 : Int) ^ (16 - l).toNat ≤ 2 ^ 16 := by
    have := Nat.pow_le_pow_right (n := 2) (by omega) (show (16 - l).toNat ≤ 16 by omega)
    exact_mod_cast this
  omega
theorem pwr_nat {l : Nat} (h : l ≤ 16) : pwr l = 2 ^ (16 - l) := by
  unfold pwr
  rw [show (16 - (l : Int)).toNat = 16 - l by omega]
theorem pf_ok_iff (p : Pf) : p.ok = true ↔ (0 ≤ p.l ∧ p.l ≤ 16) ∧ (0 ≤ p.b ∧ p.b ≤ 65535) ∧ p.b % pwr p.l = 0 := by
  simp only [Pf.ok, Bool.and_eq_true, inB_iff, decide_eq_true_eq, and_assoc]
/-- The table in order, up to place k. -/
def TGood (xs : List En) (k : Nat) : Prop := ∀ (i : Nat) x, i < k → xs[i]? = some x → x.ok = true ∧ ∀ (j : Nat) y, i = j + 1 → xs[j]? = some y → y.w.lt x.w = true
def tvalid (xs : List En) : Bool := decide (xs.length ≤ 30) && (List.range xs.length).all fun i => match xs[i]? with
  | some x => x.ok && (match i with
    | 0 => true
    | j + 1 => match xs[j]? with
      | some y => y.w.lt x.w
      | none => true)
  | none => true
theorem tvalid_iff (xs : List En) : tvalid xs = true ↔ xs.length ≤ 30 ∧ TGood xs xs.length := by
  unfold tvalid TGood
  simp only [Bool.and_eq_true, decide_eq_true_eq, List.all_eq_true, List.mem_range]
  refine and_congr Iff.rfl ⟨fun h i x hi hx => ?_, fun h i hi => ?_⟩
  · have := h i hi
    rw [hx] at this
    simp only [Bool.and_eq_true] at this
    refine ⟨this.1, fun j y hj hy => ?_⟩
    subst hj
    have := this.2
    simp only [hy] at this
    exact this
  · cases hx : xs[i]? with
    | none => rfl
    | some x =>
      obtain ⟨h1, h2⟩ := h i x hi hx
      simp only [Bool.and_eq_true]
      refine ⟨h1, ?_⟩
      cases i with
      | zero => rfl
      | succ j =>
        cases hy : xs[j]? with
        | none => simp only [hy]
        | some y => simp only [hy]; exact h2 j y rfl hy
theorem tvalid_bad {xs : List En} {i : Nat} {x : En} (hx : xs[i]? = some x) (h : x.ok = false ∨ ∃ j y, i = j + 1 ∧ xs[j]? = some y ∧ y.w.lt x.w = false) : tvalid xs = false := by
  cases hv : tvalid xs
  · rfl
  · obtain ⟨h1, h2⟩ := (tvalid_iff xs).1 hv
    have hi : i < xs.length := (List.getElem?_eq_some_iff.1 hx).1
    obtain ⟨g1, g2⟩ := h2 i x hi hx
    rcases h with h | ⟨j, y, hj, hy, hs⟩
    · rw [g1] at h; cases h
    · rw [g2 j y hj hy] at hs; cases hs
theorem tvalid_long {xs : List En} (h : 30 < xs.length) : tvalid xs = false := by
  unfold tvalid
  simp [show ¬ xs.length ≤ 30 by omega]
theorem tvalid_end {xs : List En} (h : TGood xs xs.length) : decide ((xs.length : Int) ≤ 30) = tvalid xs := by
  by_cases h20 : xs.length ≤ 30
  · rw [(tvalid_iff xs).2 ⟨h20, h⟩]; simp; omega
  · rw [tvalid_long (by omega)]; simp; omega
/-- A slice of entries. -/
def Ens (w : World) (v : Value) (xs : List En) : Prop := SlAt 3 En.enc w v xs
theorem Ens.below {w w' : World} {v : Value} {xs : List En} (h : Ens w v xs) (hb : Below w.heap.size w w') : Ens w' v xs := SlAt.below h hb
theorem Ens.at {w : World} {a : Option Addr} {n cap : Nat} {xs : List En} (h : Ens w (.slice a n cap) xs) {k : Nat} (hk : k < xs.length) :
    ∃ b o f1 f2 f3, a = some ⟨b, o, none⟩ ∧ b < w.heap.size ∧ xs[k]? = some ⟨⟨f1, f2⟩, f3⟩ ∧
      w.cell? ⟨b, o + k * 3, none⟩ = some (.int .i64 f1) ∧ w.cell? ⟨b, o + k * 3 + 1, none⟩ = some (.int .i64 f2) ∧ w.cell? ⟨b, o + k * 3 + 2, none⟩ = some (.int .i64 f3) := by
  obtain ⟨a', cap', he, _, _, hx⟩ := h
  obtain ⟨rfl, _, _⟩ := Value.slice.inj he
  obtain ⟨b, o, ha, hb, hc⟩ := hx k xs[k] (List.getElem?_eq_getElem hk)
  exact ⟨b, o, xs[k].w.b, xs[k].w.l, xs[k].v, ha, hb, List.getElem?_eq_getElem hk, hc 0 _ rfl, hc 1 _ rfl, hc 2 _ rfl⟩
theorem Ens.get {w : World} {b o n cap : Nat} {xs : List En} (h : Ens w (.slice (some ⟨b, o, none⟩) n cap) xs) {k : Nat} {f1 f2 f3 : Int} (hx : xs[k]? = some ⟨⟨f1, f2⟩, f3⟩) :
    b < w.heap.size ∧ w.cell? ⟨b, o + k * 3, none⟩ = some (.int .i64 f1) ∧ w.cell? ⟨b, o + k * 3 + 1, none⟩ = some (.int .i64 f2) ∧ w.cell? ⟨b, o + k * 3 + 2, none⟩ = some (.int .i64 f3) := by
  obtain ⟨a', cap', he, _, _, hx'⟩ := h
  obtain ⟨rfl, _, _⟩ := Value.slice.inj he
  obtain ⟨b', o', ha, hb, hc⟩ := hx' k _ hx
  obtain ⟨rfl, rfl, _⟩ := Addr.mk.inj (Option.some.inj ha)
  exact ⟨hb, hc 0 _ rfl, hc 1 _ rfl, hc 2 _ rfl⟩
theorem Ens.ex {xs : List En} {k : Nat} (hk : k < xs.length) : ∃ f1 f2 f3, xs[k]? = some ⟨⟨f1, f2⟩, f3⟩ := ⟨_, _, _, List.getElem?_eq_getElem hk⟩
theorem Ens.len {w : World} {a : Option Addr} {n cap : Nat} {xs : List En} (h : Ens w (.slice a n cap) xs) : n = xs.length ∧ n ≤ cap ∧ cap ≤ maxLen := by
  obtain ⟨a', cap', he, h1, h2, hx⟩ := h
  obtain ⟨rfl, rfl, rfl⟩ := Value.slice.inj he
  exact ⟨rfl, h1, h2⟩
end Go.Proofs.Ytfnfpekjjmejnaa
