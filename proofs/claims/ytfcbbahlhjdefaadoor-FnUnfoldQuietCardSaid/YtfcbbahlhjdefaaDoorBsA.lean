/- Small laws on worlds, slices, packets and sets of numbers that the walks share. -/
import Derived.WalkKit
import Derived.WalkSpells
import Derived.WalkLawsBesides
import Derived.Deep.QuietTactic
import Derived.BigQuiet
import Derived.Lib.Hide
import Derived.StillTailTactics
import Derived.Deep.RegionHeld3
import Derived.ArgAppend
import Derived.Deep.AppendLies
import Derived.Test.YtfcbbahlhjdefaaDoorProg
namespace Go.Proofs.YtfcbbahlhjdefaaDoor
open Go.RowKit
theorem bR {B : Nat} {w : World} : Below B w w := Below.refl B w

theorem bcell {W w1 : World} (hb : Below W.heap.size W w1) : (∀ b o, b < W.heap.size → w1.cell? ⟨b, o, none⟩ = W.cell? ⟨b, o, none⟩) ∧ (∀ b o, b < W.heap.size → w1.frozen? ⟨b, o, none⟩ = W.frozen? ⟨b, o, none⟩) :=
  ⟨fun b o h => hb.cell (p := ⟨b, o, none⟩) h, fun b o h => hb.frozen (p := ⟨b, o, none⟩) h⟩
theorem ret_bool {a b : Bool} (h : a = b) : Ending.returned (.bool a) = .returned (.bool b) := by rw [h]
theorem belDrewN {B : Nat} {a w : World} (h : Below B a w) : ∀ n, Below B a (w.drewN n)
  | 0 => h
  | _ + 1 => ⟨h.os, h.tape, h.output, h.size, h.block⟩
theorem ownCells {W w1 : World} (hb : Below W.heap.size W w1) (b : Nat) (h : b < W.heap.size) : ∀ o, w1.cell? ⟨b, o, none⟩ = W.cell? ⟨b, o, none⟩ := fun _ => hb.cell h
open Classical in
/-- x, if it has all that W has; else W: a name for whatever world stands behind calls that turn nothing of W. -/
noncomputable def over (W x : World) : World := if Below W.heap.size W x then x else W
theorem over_below (W x : World) : Below W.heap.size W (over W x) := by
  unfold over
  split
  · assumption
  · exact Below.refl _ _
theorem over_of {W x : World} (h : Below W.heap.size W x) : over W x = x := by unfold over; rw [if_pos h]
theorem below_over {W w' : World} (h : ∃ x, w' = over W x) : Below W.heap.size W w' := by
  obtain ⟨x, rfl⟩ := h
  exact over_below W x
theorem callsOver {P : Program} {f : FuncId} {args : Array Value} {W x : World} {v : Value}
    (h : Calls P f args (over W x) fun e w' => e = .returned v ∧ Below (over W x).heap.size (over W x) w') : Calls P f args (over W x) fun e w'' => e = .returned v ∧ ∃ y, w'' = over W y :=
  h.mono fun _ w' ⟨he, hb⟩ => ⟨he, w', (over_of ((over_below W x).trans (hb.mono (over_below W x).size))).symm⟩
theorem callsOverSame {P : Program} {f : FuncId} {args : Array Value} {W x : World} {v : Value}
    (h : Calls P f args (over W x) fun e w' => e = .returned v ∧ over W x = w') : Calls P f args (over W x) fun e w'' => e = .returned v ∧ ∃ y, w'' = over W y :=
  h.mono fun _ _ ⟨he, hb⟩ => ⟨he, x, hb.symm⟩
theorem wp_region_over {P : Program} {id : Nat} {Q : Exit → Act → World → Prop} {a : Act} {w : World} {l : List Oper} (hm : P.follows .mixedOrders = true) (hB : Region.lexB .any l.toArray = true)
    (h : (∀ (x : World) (b : Nat), b < w.heap.size → ∀ o, (over w x).cell? ⟨b, o, none⟩ = w.cell? ⟨b, o, none⟩) → wpQuiet P l.toArray (fun w' => ∃ x, w' = over w x) (fun a' => ∀ w', (∃ x, w' = over w x) → Q .normal a' w') l a) : (Code.region id l.toArray true).wp P Q a w :=
  wp_region_quiet (C := fun w' => ∃ x, w' = over w x) hm hB ⟨{ w with drawn := w.drawn + 1 }, (over_of (W := w) (x := { w with drawn := w.drawn + 1 }) ⟨rfl, rfl, rfl, Nat.le_refl _, fun _ _ => rfl⟩).symm⟩ (by simpa using h (fun x b hb o => (over_below w x).cell hb))
/-- n lies in lo..hi -/
def inB (n lo hi : Int) : Bool := decide (lo ≤ n ∧ n ≤ hi)
theorem inB_true {n lo hi : Int} (h1 : lo ≤ n) (h2 : n ≤ hi) : inB n lo hi = true := by simp [inB, *]
theorem inB_lo {n lo hi : Int} (h1 : n < lo) : inB n lo hi = false := by simp [inB]; omega
theorem inB_hi {n lo hi : Int} (h1 : hi < n) : inB n lo hi = false := by simp [inB]; omega
theorem inB_iff {n lo hi : Int} : inB n lo hi = true ↔ lo ≤ n ∧ n ≤ hi := by simp [inB]

/-- The cells from place o of block b on hold these values. -/
def CellsAt (w : World) (b o : Nat) (vs : List Value) : Prop := ∀ (j : Nat) c, vs[j]? = some c → w.cell? ⟨b, o + j, none⟩ = some c

theorem CellsAt.below {w w' : World} {b o : Nat} {vs : List Value} (h : CellsAt w b o vs) {B : Nat} (hb : b < B) (hw : Below B w w') : CellsAt w' b o vs :=
  fun j c hj => (hw.cell (p := ⟨b, o + j, none⟩) hb).trans (h j c hj)

/-- A slice of elements of sz cells each that reads as xs. -/
def SlAt {α : Type} (sz : Nat) (enc : α → List Value) (w : World) (v : Value) (xs : List α) : Prop :=
  ∃ a cap, v = .slice a xs.length cap ∧ xs.length ≤ cap ∧ cap ≤ maxLen ∧ ∀ (k : Nat) x, xs[k]? = some x → ∃ b o, a = some ⟨b, o, none⟩ ∧ b < w.heap.size ∧ CellsAt w b (o + k * sz) (enc x)

theorem SlAt.below {α : Type} {sz : Nat} {enc : α → List Value} {w w' : World} {v : Value} {xs : List α} (h : SlAt sz enc w v xs) (hw : Below w.heap.size w w') : SlAt sz enc w' v xs := by
  obtain ⟨a, cap, hv, h1, h2, hx⟩ := h
  refine ⟨a, cap, hv, h1, h2, fun k x hk => ?_⟩
  obtain ⟨b, o, ha, hb, hc⟩ := hx k x hk
  exact ⟨b, o, ha, Nat.lt_of_lt_of_le hb hw.size, hc.below hb hw⟩

theorem SlAt.nil {α : Type} (sz : Nat) (enc : α → List Value) (w : World) : SlAt sz enc w (.slice none 0 0) ([] : List α) :=
  ⟨none, 0, rfl, by simp, by simp, fun k x h => by simp at h⟩
/-- A range of numbers. -/
structure Sp where
  lo : Int
  hi : Int
  deriving DecidableEq
def shas (xs : List Sp) (n : Int) : Bool := xs.any fun s => inB n s.lo s.hi
/-- In order from m on, with gaps, up to h. -/
def sgood (h : Int) : Int → List Sp → Bool
  | _, [] => true
  | m, s :: xs => decide (m ≤ s.lo) && decide (s.lo ≤ s.hi) && decide (s.hi ≤ h) && sgood h (s.hi + 2) xs
def svalid (xs : List Sp) (t : Int) : Bool := inB t 0 65535 && decide (xs.length ≤ 40) && sgood t 0 xs
theorem sgood_cons {h m : Int} {s : Sp} {xs : List Sp} : sgood h m (s :: xs) = true ↔ m ≤ s.lo ∧ s.lo ≤ s.hi ∧ s.hi ≤ h ∧ sgood h (s.hi + 2) xs = true := by
  simp [sgood, and_assoc]
theorem sgood_mono {h m m' : Int} {xs : List Sp} (hg : sgood h m xs = true) (hm : m' ≤ m) : sgood h m' xs = true := by
  cases xs with
  | nil => rfl
  | cons s xs => rw [sgood_cons] at hg ⊢; exact ⟨by omega, hg.2⟩
theorem sgood_top {h h' : Int} : ∀ {m : Int} {xs : List Sp}, sgood h m xs = true → h ≤ h' → sgood h' m xs = true
  | _, [], _, _ => rfl
  | m, s :: xs, hg, hh => by
    rw [sgood_cons] at hg ⊢
    exact ⟨hg.1, hg.2.1, by omega, sgood_top hg.2.2.2 hh⟩
theorem shas_cons {s : Sp} {xs : List Sp} {n : Int} : shas (s :: xs) n = (inB n s.lo s.hi || shas xs n) := by simp [shas]
theorem shas_append {xs ys : List Sp} {n : Int} : shas (xs ++ ys) n = (shas xs n || shas ys n) := by simp [shas]
theorem shas_ge {h : Int} : ∀ {m : Int} {xs : List Sp} {n : Int}, sgood h m xs = true → shas xs n = true → m ≤ n ∧ n ≤ h
  | _, [], _, _, hn => by simp [shas] at hn
  | m, s :: xs, n, hg, hn => by
    rw [sgood_cons] at hg
    rw [shas_cons, Bool.or_eq_true, inB_iff] at hn
    rcases hn with hn | hn
    · omega
    · have := shas_ge hg.2.2.2 hn
      omega
theorem shas_lt {h m : Int} {xs : List Sp} {n : Int} (hg : sgood h m xs = true) (hn : n < m) : shas xs n = false := by
  cases hs : shas xs n
  · rfl
  · have := (shas_ge hg hs).1; omega
/-- A set has one form alone. -/
theorem sgood_ext {h h' : Int} : ∀ {m m' : Int} {xs ys : List Sp}, sgood h m xs = true → sgood h' m' ys = true → (∀ n, shas xs n = shas ys n) → xs = ys
  | _, _, [], [], _, _, _ => rfl
  | _, _, [], t :: ys, _, hy, he => by
    rw [sgood_cons] at hy
    have := he t.lo
    rw [shas_cons, show inB t.lo t.lo t.hi = true from inB_iff.2 ⟨by omega, by omega⟩] at this
    simp [shas] at this
  | _, _, s :: xs, [], hx, _, he => by
    rw [sgood_cons] at hx
    have := he s.lo
    rw [shas_cons, show inB s.lo s.lo s.hi = true from inB_iff.2 ⟨by omega, by omega⟩] at this
    simp [shas] at this
  | m, m', s :: xs, t :: ys, hx, hy, he => by
    rw [sgood_cons] at hx hy
    have in1 : ∀ n, s.lo ≤ n → n ≤ s.hi → shas (t :: ys) n = true := fun n h1 h2 => by rw [← he, shas_cons, inB_iff.2 ⟨h1, h2⟩]; rfl
    have in2 : ∀ n, t.lo ≤ n → n ≤ t.hi → shas (s :: xs) n = true := fun n h1 h2 => by rw [he, shas_cons, inB_iff.2 ⟨h1, h2⟩]; rfl
    have ge1 : ∀ n, shas (t :: ys) n = true → (t.lo ≤ n ∧ n ≤ t.hi) ∨ t.hi + 2 ≤ n := fun n h => by
      rw [shas_cons, Bool.or_eq_true, inB_iff] at h
      exact h.imp id (fun h => (shas_ge hy.2.2.2 h).1)
    have ge2 : ∀ n, shas (s :: xs) n = true → (s.lo ≤ n ∧ n ≤ s.hi) ∨ s.hi + 2 ≤ n := fun n h => by
      rw [shas_cons, Bool.or_eq_true, inB_iff] at h
      exact h.imp id (fun h => (shas_ge hx.2.2.2 h).1)
    have a1 := ge1 _ (in1 s.lo (by omega) (by omega))
    have a2 := ge2 _ (in2 t.lo (by omega) (by omega))
    have elo : s.lo = t.lo := by omega
    have ehi : s.hi = t.hi := by
      rcases Int.lt_trichotomy s.hi t.hi with hlt | heq | hlt
      · have := ge2 _ (in2 (s.hi + 1) (by omega) (by omega)); omega
      · exact heq
      · have := ge1 _ (in1 (t.hi + 1) (by omega) (by omega)); omega
    have est : s = t := by cases s; cases t; simp_all
    subst est
    have : xs = ys := sgood_ext hx.2.2.2 hy.2.2.2 (fun n => by
      by_cases hn : n < s.hi + 2
      · rw [shas_lt hx.2.2.2 hn, shas_lt hy.2.2.2 hn]
      · have := he n
        rw [shas_cons, shas_cons, show inB n s.lo s.hi = false from by rw [← Bool.not_eq_true, inB_iff]; omega] at this
        simpa using this)
    rw [this]
theorem sgood_append {h hi : Int} : ∀ {m : Int} {xs ys : List Sp}, sgood h m xs = true → h ≤ hi → sgood hi (h + 2) ys = true → m ≤ h + 2 → sgood hi m (xs ++ ys) = true
  | m, [], ys, _, _, hy, hm => sgood_mono hy hm
  | m, s :: xs, ys, hx, hh, hy, hm => by
    rw [List.cons_append]
    rw [sgood_cons] at hx ⊢
    exact ⟨hx.1, hx.2.1, by omega, sgood_append hx.2.2.2 hh hy (by omega)⟩
/-- What two ranges have in common. -/
def meet1 (x y : Sp) : Option Sp := if max x.lo y.lo ≤ min x.hi y.hi then some ⟨max x.lo y.lo, min x.hi y.hi⟩ else none
def smeet (a b : List Sp) : List Sp := a.flatMap fun x => b.filterMap (meet1 x)
theorem smeet1_has (x : Sp) (n : Int) : ∀ b : List Sp, shas (b.filterMap (meet1 x)) n = (inB n x.lo x.hi && shas b n)
  | [] => by simp [shas]
  | y :: b => by
    rw [shas_cons, List.filterMap_cons]
    have ih := smeet1_has x n b
    unfold meet1 at ih ⊢
    by_cases hm : max x.lo y.lo ≤ min x.hi y.hi
    · rw [if_pos hm]
      simp only
      rw [shas_cons, ih]
      have : inB n (max x.lo y.lo) (min x.hi y.hi) = (inB n x.lo x.hi && inB n y.lo y.hi) := by
        rw [Bool.eq_iff_iff, Bool.and_eq_true, inB_iff, inB_iff, inB_iff]; omega
      rw [this]
      cases inB n x.lo x.hi <;> simp
    · rw [if_neg hm]
      simp only
      rw [ih]
      have : (inB n x.lo x.hi && inB n y.lo y.hi) = false := by
        rw [← Bool.not_eq_true, Bool.and_eq_true, inB_iff, inB_iff]; omega
      cases h1 : inB n x.lo x.hi <;> simp [h1] at this ⊢
      simp [this]
theorem smeet_has (b : List Sp) (n : Int) : ∀ a : List Sp, shas (smeet a b) n = (shas a n && shas b n)
  | [] => by simp [shas, smeet]
  | x :: a => by
    have ih := smeet_has b n a
    unfold smeet at ih ⊢
    rw [List.flatMap_cons, shas_append, smeet1_has, ih, shas_cons]
    cases inB n x.lo x.hi <;> cases shas a n <;> simp
theorem smeet1_good {h : Int} (x : Sp) : ∀ {m L : Int} {b : List Sp}, sgood h m b = true → L ≤ x.lo ∨ L ≤ m → sgood x.hi L (b.filterMap (meet1 x)) = true
  | _, _, [], _, _ => rfl
  | m, L, y :: b, hb, hL => by
    rw [sgood_cons] at hb
    rw [List.filterMap_cons]
    unfold meet1
    by_cases hm : max x.lo y.lo ≤ min x.hi y.hi
    · rw [if_pos hm]
      simp only
      rw [sgood_cons]
      refine ⟨?_, hm, by simp only; omega, smeet1_good x hb.2.2.2 (.inr (by simp only; omega))⟩
      simp only; omega
    · rw [if_neg hm]
      exact smeet1_good x hb.2.2.2 (by omega)
theorem smeet_good {h h' m' : Int} {b : List Sp} (hb : sgood h' m' b = true) : ∀ {m : Int} {a : List Sp}, sgood h m a = true → sgood h m (smeet a b) = true
  | _, [], _ => rfl
  | m, x :: a, ha => by
    rw [sgood_cons] at ha
    have ih := smeet_good hb ha.2.2.2
    unfold smeet at ih ⊢
    rw [List.flatMap_cons]
    exact sgood_append (smeet1_good x hb (.inl ha.1)) ha.2.2.1 ih (by omega)
/-- The numbers from at to t that a set leaves. -/
def sother (t : Int) : Int → List Sp → List Sp
  | at', [] => if at' ≤ t then [⟨at', t⟩] else []
  | at', s :: xs => (if at' < s.lo then [⟨at', s.lo - 1⟩] else []) ++ sother t (s.hi + 1) xs
theorem sother_has {t : Int} (n : Int) : ∀ {k : Int} {xs : List Sp}, sgood t k xs = true → shas (sother t k xs) n = (inB n k t && !shas xs n)
  | k, [], _ => by
    unfold sother
    split
    · simp [shas]
    · rw [show inB n k t = false from by rw [← Bool.not_eq_true, inB_iff]; omega]; simp [shas]
  | k, s :: xs, hg => by
    rw [sgood_cons] at hg
    unfold sother
    rw [shas_append, sother_has n (sgood_mono hg.2.2.2 (by omega)), shas_cons]
    have key : shas (if k < s.lo then [(⟨k, s.lo - 1⟩ : Sp)] else []) n = inB n k (s.lo - 1) := by
      split
      · simp [shas]
      · rw [show inB n k (s.lo - 1) = false from by rw [← Bool.not_eq_true, inB_iff]; omega]; simp [shas]
    rw [key]
    cases hs : shas xs n
    · rw [Bool.eq_iff_iff]
      simp only [Bool.or_eq_true, Bool.and_eq_true, inB_iff, Bool.not_eq_true', Bool.or_false, Bool.not_false, and_true]
      rw [← Bool.not_eq_true, inB_iff]
      omega
    · have := (shas_ge hg.2.2.2 hs).1
      rw [show inB n k (s.lo - 1) = false from by rw [← Bool.not_eq_true, inB_iff]; omega]
      simp
theorem sother_good {t : Int} : ∀ {k : Int} {xs : List Sp}, sgood t k xs = true → sgood t k (sother t k xs) = true
  | k, [], _ => by
    unfold sother
    split
    · rw [sgood_cons]; exact ⟨by simp, by simpa, by simp, rfl⟩
    · rfl
  | k, s :: xs, hg => by
    rw [sgood_cons] at hg
    unfold sother
    have ih := sother_good (t := t) (sgood_mono (m' := s.hi + 1) hg.2.2.2 (by omega))
    split
    · rw [List.singleton_append, sgood_cons]
      exact ⟨by simp, by simp only; omega, by simp only; omega, by simp only; exact sgood_mono ih (by omega)⟩
    · rw [List.nil_append]
      exact sgood_mono ih (by omega)
theorem flatMap_at {α : Type} {sz : Nat} {enc : α → List Value} (henc : ∀ x, (enc x).length = sz) : ∀ (ys : List α) (k : Nat) (y : α) (j : Nat), ys[k]? = some y → j < sz → (ys.flatMap enc)[k * sz + j]? = (enc y)[j]?
  | [], k, y, j, h, _ => by simp at h
  | x :: ys, 0, y, j, h, hj => by
    simp at h
    subst h
    simp only [List.flatMap_cons, Nat.zero_mul, Nat.zero_add]
    rw [List.getElem?_append_left (by rw [henc]; exact hj)]
  | x :: ys, k + 1, y, j, h, hj => by
    simp only [List.flatMap_cons]
    rw [List.getElem?_append_right (by rw [henc, Nat.add_mul]; omega), henc, show (k + 1) * sz + j - sz = k * sz + j from by rw [Nat.add_mul]; omega]
    exact flatMap_at henc ys k y j (by simpa using h) hj
theorem length_flatMap {α : Type} {sz : Nat} {enc : α → List Value} (henc : ∀ x, (enc x).length = sz) (ys : List α) : (ys.flatMap enc).length = ys.length * sz := by
  induction ys with
  | nil => simp
  | cons x ys ih => simp [henc, ih, Nat.add_mul]; omega
/-- The call's own slice v holds the elements ys (of type e, sz cells each), in a block from base on. -/
def OwnSl {α : Type} (base : Nat) (e : TypeId) (sz : Nat) (enc : α → List Value) (w : World) (v : Value) (ys : List α) : Prop := w.ownsRow base e sz v ys.length (ys.flatMap enc)
theorem OwnSl.at {α : Type} {base e sz : Nat} {enc : α → List Value} (henc : ∀ x, (enc x).length = sz) {w : World} {v : Value} {ys : List α} (h : OwnSl base e sz enc w v ys) : SlAt sz enc w v ys := by
  obtain ⟨_, h | ⟨g, cap, cur, rfl, hg, hh, hn, hm, hs, ht⟩⟩ := h
  · obtain ⟨rfl, h0⟩ := h
    refine ⟨none, 0, by rw [h0], by omega, by simp, fun k x hk => ?_⟩
    have := (List.getElem?_eq_some_iff.1 hk).1
    omega
  · refine ⟨some ⟨g, 0, none⟩, cap, rfl, hn, hm, fun k x hk => ⟨g, 0, rfl, (Array.getElem?_eq_some_iff.1 hh).1, fun j c hj => ?_⟩⟩
    have hjs : j < sz := by have := (List.getElem?_eq_some_iff.1 hj).1; rwa [henc] at this
    have hk' := (List.getElem?_eq_some_iff.1 hk).1
    have hlt : k * sz + j < ys.length * sz := by
      have : (k + 1) * sz ≤ ys.length * sz := Nat.mul_le_mul_right _ (by omega)
      rw [Nat.add_mul] at this; omega
    have h1 : (cur.toList.take (ys.length * sz))[k * sz + j]? = some c := by rw [ht, flatMap_at henc ys k x j hk hjs, hj]
    rw [List.getElem?_take_of_lt hlt] at h1
    simp [World.cell?, hh, ← h1]
theorem OwnSl.kept {α : Type} {base e sz : Nat} {enc : α → List Value} {w w' : World} {v : Value} {ys : List α} (h : OwnSl base e sz enc w v ys) (hb : Below w.heap.size w w') : OwnSl base e sz enc w' v ys := by
  refine ⟨h.1, ?_⟩
  obtain ⟨_, h | ⟨g, cap, cur, rfl, hg, hh, r⟩⟩ := h
  · exact Or.inl h
  · exact Or.inr ⟨g, cap, cur, rfl, hg, (hb.block g (Array.getElem?_eq_some_iff.1 hh).1).trans hh, r⟩
theorem OwnSl.mono {α : Type} {base base' e sz : Nat} {enc : α → List Value} {w : World} {v : Value} {ys : List α} (h : OwnSl base e sz enc w v ys) (hb : base' ≤ base) : OwnSl base' e sz enc w v ys := by
  refine ⟨h.1, ?_⟩
  obtain ⟨_, h | ⟨g, cap, cur, rfl, hg, r⟩⟩ := h
  · exact Or.inl h
  · exact Or.inr ⟨g, cap, cur, rfl, Nat.le_trans hb hg, r⟩
theorem OwnSl.nil {α : Type} (base e sz : Nat) (enc : α → List Value) (w : World) : OwnSl base e sz enc w (.slice none 0 0) ([] : List α) := World.ownsRow_nil w base e sz
theorem cellsNew (w : World) (cs : List Value) (e : TypeId) : ∀ (j : Nat) u, cs[j]? = some u → (w.alloc (.cells cs.toArray e)).cell? ((⟨w.heap.size, 0, none⟩ : Addr).add j) = some u := by
  intro j u h
  simp [Addr.add_lit, h]
theorem OwnSl.pushed {α : Type} {base e sz : Nat} {enc : α → List Value} {w : World} {v : Value} {ys : List α} {y : α} {n : Nat} (hn : n = ys.length) (h : w.ownsRow base e sz v (n + 1) (ys.flatMap enc ++ enc y)) : OwnSl base e sz enc w v (ys ++ [y]) := by
  subst hn
  unfold OwnSl
  simpa using! h
/-- What an append to the call's own slice leaves of the worlds before. -/
theorem belGrown {base : Nat} {w w0 w' : World} {v : Value} {e sz n : Nat} {xs : List Value} (hb : Below base w w0) (hown : w0.ownsRow base e sz v n xs) (hg : w0.grownBy w' v.ownBlock) (hB : base ≤ w0.heap.size) : Below base w w' :=
  hb.grown hg hB (fun k hk => (hown.lt k hk).1)
def setAll (L : List Value) : Nat → List Value → List Value
  | _, [] => L
  | o, c :: cs => setAll (L.set o c) (o + 1) cs
theorem setAll_append_right (A L : List Value) : ∀ (cs : List Value) (o : Nat), setAll (A ++ L) (A.length + o) cs = A ++ setAll L o cs
  | cs, o => by
    induction cs generalizing L o with
    | nil => rfl
    | cons c cs ih =>
      simp only [setAll]
      rw [List.set_append_right _ _ (by omega), show A.length + o - A.length = o from by omega, Nat.add_assoc, ih]
theorem setAll_cons (x : Value) (L cs : List Value) (o : Nat) : setAll (x :: L) (o + 1) cs = x :: setAll L o cs := by
  have := setAll_append_right [x] L cs o
  simpa [Nat.add_comm] using this
theorem setAll_head (A L : List Value) : ∀ (cs : List Value), A.length = cs.length → setAll (A ++ L) 0 cs = cs ++ L
  | [], h => by
    have : A = [] := List.eq_nil_of_length_eq_zero h
    subst this; rfl
  | c :: cs, h => by
    cases A with
    | nil => simp at h
    | cons a A =>
      simp only [setAll, List.cons_append, List.set_cons_zero]
      rw [setAll_cons, setAll_head A L cs (by simpa using h)]
theorem setAll_flatMap {α : Type} {sz : Nat} {enc : α → List Value} (henc : ∀ x, (enc x).length = sz) : ∀ (ys : List α) (k : Nat) (y : α), k < ys.length → setAll (ys.flatMap enc) (k * sz) (enc y) = (ys.set k y).flatMap enc
  | [], k, y, h => by simp at h
  | x :: ys, 0, y, _ => by
    simp only [List.flatMap_cons, Nat.zero_mul, List.set_cons_zero]
    exact setAll_head (enc x) (ys.flatMap enc) (enc y) (by rw [henc, henc])
  | x :: ys, k + 1, y, h => by
    simp only [List.flatMap_cons, List.set_cons_succ]
    rw [show (k + 1) * sz = (enc x).length + k * sz from by rw [henc, Nat.add_mul]; omega, setAll_append_right, setAll_flatMap henc ys k y (by simpa using h)]
/-- The world behind the stores of cs from place o of block g on. -/
def wSet (w : World) (g : Nat) : Nat → List Value → World
  | _, [] => w
  | o, c :: cs => wSet (w.setCell ⟨g, o, none⟩ c) g (o + 1) cs
theorem owns_wSet {base e size n cap g : Nat} : ∀ (cs : List Value) (o : Nat) (w : World) (xs : List Value), w.ownsRow base e size (.slice (some ⟨g, 0, none⟩) n cap) n xs →
    (wSet w g o cs).ownsRow base e size (.slice (some ⟨g, 0, none⟩) n cap) n (setAll xs o cs) ∧ w.grownBy (wSet w g o cs) (some g)
  | [], _, w, xs, h => ⟨h, World.grownBy.refl _ _⟩
  | c :: cs, o, w, xs, h => by
    obtain ⟨h1, h2⟩ := h.stored o c
    obtain ⟨h3, h4⟩ := owns_wSet cs (o + 1) _ _ h1
    exact ⟨h3, ⟨h4.os.trans h2.os, h4.tape.trans h2.tape, h4.output.trans h2.output, Nat.le_trans h2.size h4.size, fun k hk hne => (h4.block k (Nat.lt_of_lt_of_le hk h2.size) hne).trans (h2.block k hk hne)⟩⟩
theorem OwnSl.store {α : Type} {base e sz : Nat} {enc : α → List Value} (henc : ∀ x, (enc x).length = sz) {w : World} {g n cap : Nat} {ys : List α} (hn : n = ys.length) (h : OwnSl base e sz enc w (.slice (some ⟨g, 0, none⟩) n cap) ys) {k : Nat} (hk : k < ys.length) (y : α) :
    OwnSl base e sz enc (wSet w g (k * sz) (enc y)) (.slice (some ⟨g, 0, none⟩) n cap) (ys.set k y) ∧ w.grownBy (wSet w g (k * sz) (enc y)) (some g) := by
  subst hn
  obtain ⟨h1, h2⟩ := owns_wSet (enc y) (k * sz) w _ h
  refine ⟨?_, h2⟩
  unfold OwnSl
  rw [List.length_set, ← setAll_flatMap henc ys k y hk]
  exact h1
theorem isSome_arr (c : Array Value) (j : Nat) : c[j]?.isSome = decide (j < c.size) := by by_cases h : j < c.size <;> simp [h]
theorem isSome_set (w : World) (a : Addr) (v : Value) (b : Addr) : ((w.setCell a v).cell? b).isSome = (w.cell? b).isSome := by
  unfold World.cell? World.setCell
  simp only [Array.getElem?_modify]
  by_cases h : a.block = b.block
  · rw [if_pos h]
    cases hb : w.heap[b.block]? with
    | none => simp
    | some o =>
      cases o with
      | cells c e fr =>
        by_cases h1 : a.spot.isSome = true <;> by_cases h2 : b.spot.isSome = true <;> simp [h1, h2, isSome_arr]
      | _ => simp
  · rw [if_neg h]
theorem wSet_cell {g : Nat} : ∀ (cs : List Value) (o : Nat) (w : World), (∀ j, j < cs.length → (w.cell? ⟨g, o + j, none⟩).isSome = true) → ∀ (j : Nat) v, cs[j]? = some v → (wSet w g o cs).cell? ⟨g, o + j, none⟩ = some v := by
  have keep : ∀ (cs : List Value) (o : Nat) (w : World) (q : Nat), q < o → (wSet w g o cs).cell? ⟨g, q, none⟩ = w.cell? ⟨g, q, none⟩ := by
    intro cs
    induction cs with
    | nil => intro o w q _; rfl
    | cons c cs ih =>
      intro o w q hq
      simp only [wSet]
      rw [ih (o + 1) _ q (by omega), World.cell?_setCell_other _ _ _ _ (by intro e; simp at e; try omega)]
  intro cs
  induction cs with
  | nil => intro o w _ j v h; simp at h
  | cons c cs ih =>
    intro o w hs j v h
    cases j with
    | zero =>
      simp at h
      subst h
      simp only [wSet, Nat.add_zero]
      rw [keep cs (o + 1) _ o (by omega)]
      exact World.cell?_setCell_same' _ _ _ (by simpa using hs 0 (by simp))
    | succ j =>
      simp only [wSet]
      have := ih (o + 1) (w.setCell ⟨g, o, none⟩ c) (fun i hi => by rw [isSome_set, show o + 1 + i = o + (i + 1) from by omega]; exact hs (i + 1) (by simpa using hi)) j v (by simpa using h)
      rw [show o + 1 + j = o + (j + 1) from by omega] at this
      exact this
/-- A result that lies in a cell of the call's own. -/
theorem run_resCell {P : Program} {fn : Func} {p : Tmp} {ty : TypeId} {w : World} {tmps : Array Value} {b o : Nat} {cs : List Value} (h : fn.results = #[.cell p ty]) (hp : tmps.getD p undef = .pointer (some ⟨b, o, none⟩))
    (ha : ∀ w, (isAgg ty).run P w = .ok true w) (hz : ∀ w, (sizeOf ty).run P w = .ok cs.length w) (hc : ∀ (j : Nat) v, cs[j]? = some v → w.cell? ⟨b, o + j, none⟩ = some v) : (results fn tmps).run P w = .ok (.agg cs.toArray) w := by
  have hl := run_loadCells_list (P := P) (w := w) ⟨b, o, none⟩ cs (fun j v hj => by rw [Addr.add_lit]; exact hc j v hj)
  have hp' : tmps[p]?.getD undef = .pointer (some ⟨b, o, none⟩) := by rw [← hp]; simp [Array.getD]; split <;> simp_all
  simp only [results, h]
  simp [Sem.run_bind, Result.andThen, hp', loadVar, ha, hz, asAddr, hl]
/-- What a slice of the call's own is. -/
theorem OwnSl.form {α : Type} {base e sz : Nat} {enc : α → List Value} {w : World} {v : Value} {ys : List α} (h : OwnSl base e sz enc w v ys) :
    (v = .slice none 0 0 ∧ ys = []) ∨ ∃ g cap, v = .slice (some ⟨g, 0, none⟩) ys.length cap ∧ base ≤ g ∧ g < w.heap.size ∧ ys.length ≤ cap ∧ cap ≤ maxLen ∧ (∀ o, w.frozen? ⟨g, o, none⟩ = false) := by
  obtain ⟨_, h0 | ⟨g, cap, cur, rfl, hg, hh, hn, hm, r⟩⟩ := id h
  · exact Or.inl ⟨h0.1, List.eq_nil_of_length_eq_zero h0.2⟩
  · exact Or.inr ⟨g, cap, rfl, hg, (Array.getElem?_eq_some_iff.1 hh).1, hn, hm, fun o => World.ownsRow.frozenAt h o⟩
theorem OwnSl.frz {α : Type} {base e sz : Nat} {enc : α → List Value} {w : World} {g n cap : Nat} {ys : List α} (h : OwnSl base e sz enc w (.slice (some ⟨g, 0, none⟩) n cap) ys) : ∀ j, w.frozen? ⟨g, j, none⟩ = false := by
  rcases h.form with ⟨h0, _⟩ | ⟨g', cap', h0, _, _, _, _, hf⟩
  · cases h0
  · obtain ⟨h1, _, _⟩ := Value.slice.inj h0
    obtain ⟨rfl, _, _⟩ := Addr.mk.inj (Option.some.inj h1)
    exact hf
theorem OwnSl.cell {α : Type} {base e sz : Nat} {enc : α → List Value} (henc : ∀ x, (enc x).length = sz) {w : World} {g n cap : Nat} {ys : List α} (h : OwnSl base e sz enc w (.slice (some ⟨g, 0, none⟩) n cap) ys) {k : Nat} {y : α} (hk : ys[k]? = some y) :
    ∀ (j : Nat) c, (enc y)[j]? = some c → w.cell? ⟨g, k * sz + j, none⟩ = some c := by
  obtain ⟨a, cp, he, _, _, hx⟩ := OwnSl.at henc h
  obtain ⟨rfl, _, _⟩ := Value.slice.inj he
  obtain ⟨b, o, ha, hb, hc⟩ := hx k y hk
  obtain ⟨rfl, rfl, _⟩ := Addr.mk.inj (Option.some.inj ha)
  intro j c hj
  simpa using hc j c hj
theorem madeFlat {α : Type} {enc : α → List Value} {sz : Nat} (henc : ∀ x, (enc x).length = sz) (h0 : 0 < sz) (z : Value) (y : α) (h : z.cells.toList = enc y) (n : Nat) : (madeCells z.cells (n * sz)).toList = (List.replicate n y).flatMap enc := by
  have hs : z.cells.size = sz := by rw [← Array.length_toList, h, henc]
  apply List.ext_getElem?
  intro i
  by_cases hi : i < n * sz
  · have hd := Nat.div_add_mod i sz
    have hk : i / sz < n := Nat.div_lt_of_lt_mul (by rw [Nat.mul_comm]; exact hi)
    have hj : i % sz < sz := Nat.mod_lt _ h0
    rw [show i = i / sz * sz + i % sz from by rw [Nat.mul_comm]; omega]
    rw [flatMap_at henc _ (i / sz) y (i % sz) (by simp [hk]) hj, ← h]
    simp only [madeCells, Array.getElem?_toList, Array.getElem?_map, hs]
    rw [show i / sz * sz + i % sz = i from by rw [Nat.mul_comm]; omega, Array.getElem?_range, if_pos hi]
    simp [hs, hj]
  · rw [List.getElem?_eq_none (by simp [size_madeCells]; omega), List.getElem?_eq_none (by rw [length_flatMap henc]; simp; omega)]
theorem SlAt.flat {α : Type} {sz : Nat} {enc : α → List Value} (hsz : 0 < sz) (henc : ∀ x, (enc x).length = sz) {w : World} {a : Addr} {n cap : Nat} {xs : List α} (h : SlAt sz enc w (.slice (some a) n cap) xs) :
    ∀ (j : Nat) u, (xs.flatMap enc)[j]? = some u → w.cell? (a.add j) = some u := by
  intro j u hj
  obtain ⟨a', cap', he, _, _, hx⟩ := h
  obtain ⟨rfl, rfl, rfl⟩ := Value.slice.inj he
  have hlt : j < xs.length * sz := by
    have := (List.getElem?_eq_some_iff.1 hj).1
    rwa [length_flatMap henc] at this
  have hk : j / sz < xs.length := Nat.div_lt_of_lt_mul (by rw [Nat.mul_comm]; exact hlt)
  have hr : j % sz < sz := Nat.mod_lt _ hsz
  have hd : j / sz * sz + j % sz = j := by rw [Nat.mul_comm]; exact Nat.div_add_mod j sz
  have hy := List.getElem?_eq_getElem hk
  obtain ⟨b, o, ha, hb, hc⟩ := hx _ _ hy
  rw [← hd, flatMap_at henc xs _ _ _ hy hr] at hj
  have := hc _ _ hj
  cases ha
  rw [Addr.add_lit]
  rwa [show o + j / sz * sz + j % sz = o + j by omega] at this
/-- An append whose run is known. -/
theorem wp_append_run {P : Program} {o : Oper} {a : Act} {w : World} {K : Act → World → Prop} {Q : Exit → Act → World → Prop} (s x : Operand) (t : TypeId)
    (ho : o.op = .call { callee := .builtin .append, args := #[s, x], argTypes := #[t, t] }) {vs vx : Value} (hs : a.eval s = vs) (hx : a.eval x = vx) {v' : Value} {w' : World}
    (hr : (Builtin.append_ #[t, t] o.type #[vs, vx]).run P w = .ok v' w') (hk : K (a.put o.dst v') w') : o.wp P a w K Q := by
  unfold Oper.wp execOp
  simp only [ho, resolve, invoke, builtin, Sem.run_bind, Sem.run_pure, Result.andThen_ok, List.map_toArray, List.map_cons, List.map_nil, hs, hx, hr]
  exact hk
theorem wpList_append_run {P : Program} {ops : Array Oper} {rest : List Oper} {o : Oper} {a : Act} {w : World} {Q : Exit → Act → World → Prop} (hgd : o.guard = none) (s x : Operand) (t : TypeId)
    (ho : o.op = .call { callee := .builtin .append, args := #[s, x], argTypes := #[t, t] }) {vs vx : Value} (hs : a.eval s = vs) (hx : a.eval x = vx) {v' : Value} {w' : World}
    (hr : (Builtin.append_ #[t, t] o.type #[vs, vx]).run P w = .ok v' w') (hk : wpList P ops Q rest (a.put o.dst v') w') : wpList P ops Q (o :: rest) a w :=
  wpList_plain hgd fun _ hK => wp_append_run s x t ho hs hx hr (hK _ _ hk)
/-- Where the slice from place k on begins. -/
def dropA (a : Option Addr) (cap k sz : Nat) : Option Addr := if cap = k then a else a.map (·.add (k * sz))
theorem SlAt.drop {α : Type} {sz : Nat} {enc : α → List Value} {w : World} {a : Option Addr} {n cap : Nat} {xs : List α} (h : SlAt sz enc w (.slice a n cap) xs) {k : Nat} (hk : k ≤ n) : SlAt sz enc w (.slice (dropA a cap k sz) (n - k) (cap - k)) (xs.drop k) := by
  obtain ⟨a', cap', he, h1, h2, hx⟩ := h
  obtain ⟨rfl, rfl, rfl⟩ := Value.slice.inj he
  refine ⟨_, _, by rw [List.length_drop], by rw [List.length_drop]; omega, by omega, fun j x hj => ?_⟩
  rw [List.getElem?_drop] at hj
  have hlt := (List.getElem?_eq_some_iff.1 hj).1
  obtain ⟨b, o, ha, hb, hc⟩ := hx (k + j) x hj
  refine ⟨b, o + k * sz, ?_, hb, ?_⟩
  · unfold dropA
    rw [if_neg (by omega), ha]
    simp [Addr.add_lit]
  · rwa [show o + k * sz + j * sz = o + (k + j) * sz by rw [Nat.add_mul]; omega]
theorem run_slice_from {P : Program} {w : World} {t e : TypeId} {i : TypeInfo} (ht : P.underlying t = some (.slice e)) (hi : P.info? e = some i) (a : Option Addr) (n cap k : Nat) (hk : k ≤ n) :
    (Instr.slice t (.slice a n cap) (some (.int .i64 k)) none none).run P w = .ok (.slice (dropA a cap k i.size) (n - k) (cap - k)) w := by
  simp [Instr.slice, Instr.sliceBounds, Instr.sliceBound, run_underlying ht, sizeOf, typeInfo, hi, asIntOf, Result.andThen, hk, dropA]
theorem wp_slice_from {P : Program} {o : Oper} {ac : Act} {w : World} {K : Act → World → Prop} {Q : Exit → Act → World → Prop} {t e : TypeId} {x y : Operand} (ho : o.op = .slice t x (some y) none none) {i : TypeInfo} {sz : Nat} (ht : P.underlying t = some (.slice e)) (hi : P.info? e = some i) (hsz : i.size = sz)
    {a : Option Addr} {n cap k : Nat} (hx : ac.eval x = .slice a n cap) (hy : ac.eval y = .int .i64 k) (hk : k ≤ n) (h : K (ac.put o.dst (.slice (dropA a cap k sz) (n - k) (cap - k))) w) : o.wp P ac w K Q := by
  subst hsz
  have hr := run_slice_from (P := P) (w := w) ht hi a n cap k hk
  unfold Oper.wp execOp
  simp only [ho, Instr.sliceAt, hx, hy, Option.map_some, Option.map_none, Sem.run_bind, run_underlying ht, Result.andThen_ok, hr]
  exact h
theorem set_flatMap {α : Type} {sz : Nat} {enc : α → List Value} (henc : ∀ x, (enc x).length = sz) : ∀ (ys : List α) (k : Nat) (y y' : α) (j : Nat) (c : Value), ys[k]? = some y → j < sz → enc y' = (enc y).set j c → (ys.flatMap enc).set (k * sz + j) c = (ys.set k y').flatMap enc
  | [], k, y, y', j, c, h, _, _ => by simp at h
  | x :: ys, 0, y, y', j, c, h, hj, he => by
    simp at h
    subst h
    simp only [List.flatMap_cons, Nat.zero_mul, Nat.zero_add, List.set_cons_zero]
    rw [List.set_append_left _ _ (by rw [henc]; exact hj), he]
  | x :: ys, k + 1, y, y', j, c, h, hj, he => by
    simp only [List.flatMap_cons, List.set_cons_succ]
    rw [List.set_append_right _ _ (by rw [henc, Nat.add_mul]; omega), henc, show (k + 1) * sz + j - sz = k * sz + j from by rw [Nat.add_mul]; omega,
      set_flatMap henc ys k y y' j c (by simpa using h) hj he]
theorem OwnSl.storeAt {α : Type} {base e sz : Nat} {enc : α → List Value} (henc : ∀ x, (enc x).length = sz) {w : World} {g n cap : Nat} {ys : List α} (hn : n = ys.length) (h : OwnSl base e sz enc w (.slice (some ⟨g, 0, none⟩) n cap) ys) {k : Nat} {y y' : α} (hk : ys[k]? = some y) {j : Nat} {c : Value} (hj : j < sz) (he : enc y' = (enc y).set j c) :
    OwnSl base e sz enc (w.setCell ⟨g, k * sz + j, none⟩ c) (.slice (some ⟨g, 0, none⟩) n cap) (ys.set k y') ∧ w.grownBy (w.setCell ⟨g, k * sz + j, none⟩ c) (some g) := by
  subst hn
  obtain ⟨h1, h2⟩ := World.ownsRow.stored h (k * sz + j) c
  refine ⟨?_, h2⟩
  unfold OwnSl
  rw [List.length_set, ← set_flatMap henc ys k y y' j c hk hj he]
  exact h1

structure Pk where
  from_ : Int
  to_ : Int
  port : Int
  proto : Int
  deriving DecidableEq
def Pk.ok (p : Pk) : Bool := inB p.from_ 0 65535 && inB p.to_ 0 65535 && inB p.port 0 255 && inB p.proto 0 7
def Pk.fld (p : Pk) (n : Nat) : Int := match n with | 0 => p.from_ | 1 => p.to_ | 2 => p.port | _ => p.proto
def top (n : Nat) : Int := [65535, 65535, 255, 7].getD n (-1)
theorem ok_iff (p : Pk) : Pk.ok p = true ↔ ∀ j, j < 4 → inB (p.fld j) 0 (top j) = true := by
  constructor
  · intro h j hj
    simp only [Pk.ok, Bool.and_eq_true] at h
    rcases (by omega : j = 0 ∨ j = 1 ∨ j = 2 ∨ j = 3) with rfl | rfl | rfl | rfl <;> simp [Pk.fld, top, h]
  · intro h
    have h0 := h 0 (by omega)
    have h1 := h 1 (by omega)
    have h2 := h 2 (by omega)
    have h3 := h 3 (by omega)
    simp [Pk.fld, top] at h0 h1 h2 h3
    simp [Pk.ok, *]
theorem ok_false (p : Pk) (j : Nat) (hj : j < 4) (h : inB (p.fld j) 0 (top j) = false) : Pk.ok p = false := by
  cases hp : Pk.ok p
  · rfl
  · rw [(ok_iff p).1 hp j hj] at h; cases h

/-- The table of the fields as it lies in the first variable's block. -/
def Tab (w : World) : Prop := 0 < w.heap.size ∧ w.cell? ⟨0, 1, none⟩ = some (.int .i64 65535) ∧ w.cell? ⟨0, 3, none⟩ = some (.int .i64 65535) ∧ w.cell? ⟨0, 5, none⟩ = some (.int .i64 255) ∧ w.cell? ⟨0, 7, none⟩ = some (.int .i64 7)
theorem Tab.below {w w' : World} (h : Tab w) (hb : Below w.heap.size w w') : Tab w' := by
  obtain ⟨h0, h1, h2, h3, h4⟩ := h
  have := hb.size
  refine ⟨by omega, ?_, ?_, ?_, ?_⟩ <;> (rw [hb.cell h0]; assumption)

set_option maxHeartbeats 400000 in
theorem l1In_any (n lo hi : Int) (w : World) :
    Calls Tryd.prog 21 #[.int .i64 n, .int .i64 lo, .int .i64 hi] w fun e w' => e = .returned (.bool (inB n lo hi)) ∧ w = w' := by
  go_enter Tryd.func21, Tryd.ntmps21
  go_wp2
  · go_ret
    exact ⟨ret_bool (by simp [inB, *]), rfl⟩
  · go_ret
    exact ⟨ret_bool (by simp [inB]; omega), rfl⟩
set_option maxHeartbeats 400000 in
theorem specPV_any (a b c d : Int) (w : World) :
    Calls Tryd.prog 9 #[.agg #[.int .i64 a, .int .i64 b, .int .i64 c, .int .i64 d]] w fun e w' => e = .returned (.bool (Pk.ok ⟨a,b,c,d⟩)) ∧ Below w.heap.size w w' := by
  go_enter Tryd.func9, Tryd.ntmps9
  go_wp2_with (go_at_call 21; refine (l1In_any _ _ _ _).mono ?_; rintro e w' ⟨rfl, rfl⟩)
  all_goals (go_ret; exact ⟨ret_bool (by simp [Pk.ok, *]), (Below.refl _ _).alloc (Nat.le_refl _) _⟩)
set_option maxHeartbeats 400000 in
theorem FieldTop_any (n : Nat) (hn : n < 4) (w : World) (ht : Tab w) :
    Calls Tryd.prog 32 #[.int .i64 n] w fun e w' => e = .returned (.int .i64 (top n)) ∧ w = w' := by
  obtain ⟨h0, h1, h2, h3, h4⟩ := ht
  rcases (by omega : n = 0 ∨ n = 1 ∨ n = 2 ∨ n = 3) with rfl | rfl | rfl | rfl
  all_goals
    go_enter Tryd.func32, Tryd.ntmps32
    go_wp2
    go_ret
    exact ⟨rfl, rfl⟩
set_option maxHeartbeats 400000 in
theorem fields_any (a b c d : Int) (w : World) :
    Calls Tryd.prog 31 #[.agg #[.int .i64 a, .int .i64 b, .int .i64 c, .int .i64 d]] w fun e w' => e = .returned (.agg #[.int .i64 a, .int .i64 b, .int .i64 c, .int .i64 d]) ∧ Below w.heap.size w w' := by
  go_enter Tryd.func31, Tryd.ntmps31
  go_wp2
  exact bodyPost_ret (v := .agg #[.int .i64 a, .int .i64 b, .int .i64 c, .int .i64 d]) (by simp [results, Tryd.results31, go_sem]) rfl ⟨rfl, ((Below.refl _ _).alloc (Nat.le_refl _) _).alloc (by simp) _⟩
set_option maxHeartbeats 400000 in
theorem pv_any (a b c d : Int) (w : World) (ht : Tab w) :
    Calls Tryd.prog 15 #[.agg #[.int .i64 a, .int .i64 b, .int .i64 c, .int .i64 d]] w fun e w' => e = .returned (.bool (Pk.ok ⟨a,b,c,d⟩)) ∧ Below w.heap.size w w' := by
  go_enter Tryd.func15, Tryd.ntmps15
  go_wp2_with fail
  refine (fields_any a b c d _).mono ?_
  rintro e w1 ⟨rfl, hb⟩
  have hb1 : Below w.heap.size w w1 := ((Below.refl _ _).alloc (Nat.le_refl _) _).trans (hb.mono (by simp))
  clear hb
  go_wp2_with fail
  have ht1 : Tab w1 := ht.below hb1
  clear ht
  go_loopw [7] (fun i wr => ∃ k : Nat, k ≤ 4 ∧ i = .int .i64 k ∧ Tab wr ∧ Below w.heap.size w wr ∧ ∀ j, j < k → inB (Pk.fld ⟨a, b, c, d⟩ j) 0 (top j) = true) (fun i _ => 4 - (intOf i).toNat)
  case atStart => exact ⟨0, by omega, rfl, ht1, hb1, fun j hj => by omega⟩
  case round =>
    obtain ⟨k, hk, rfl, ht2, hb2, hq⟩ := hrel
    have HT := Lib.hid ht2; clear ht2
    have HQ := Lib.hid hq; clear hq
    by_cases h4 : k = 4
    · subst h4
      go_wp2
      go_ret
      exact ⟨ret_bool ((ok_iff _).2 HQ.out).symm, hb2⟩
    · obtain ⟨f, hf⟩ : ∃ f, Pk.fld ⟨a, b, c, d⟩ k = f := ⟨_, rfl⟩
      have HF := Lib.hid hf
      have hx : ∀ w : World, (Instr.index 73 (.agg #[.int .i64 a, .int .i64 b, .int .i64 c, .int .i64 d]) (.int .i64 (k : Int))).run Tryd.prog w = .ok (.int .i64 f) w := by
        subst hf
        intro w
        rcases (by omega : k = 0 ∨ k = 1 ∨ k = 2 ∨ k = 3) with rfl | rfl | rfl | rfl <;> kernel_rfl
      clear hf
      go_wp2_with (go_at_call 32; refine (FieldTop_any _ (by omega) _ HT.out).mono ?_; rintro e w' ⟨rfl, rfl⟩)
      · go_ret
        refine ⟨ret_bool (ok_false _ k (by omega) ?_).symm, hb2⟩
        rw [HF.out]
        rcases ‹f < 0 ∨ top k < f› with h | h
        · exact inB_lo h
        · exact inB_hi h
      · go_roundw
        case rel =>
          refine ⟨k + 1, by omega, by go_num, HT.out, hb2, fun j hj => ?_⟩
          by_cases hjk : j = k
          · subst hjk; rw [HF.out]; exact inB_true (by omega) (by omega)
          · exact HQ.out j (by omega)
        case measure => simp [intOf]; omega
      · go_ret
        refine ⟨ret_bool (ok_false _ k (by omega) ?_).symm, hb2⟩
        rw [HF.out]; exact inB_lo (by assumption)
theorem l1In_b {n lo hi : Int} {r : Bool} (h : inB n lo hi = r) (w : World) : Calls Tryd.prog 21 #[.int .i64 n, .int .i64 lo, .int .i64 hi] w fun e w' => e = .returned (.bool r) ∧ w = w' := by
  subst h
  exact l1In_any n lo hi w
theorem specPV_b {a b c d : Int} {r : Bool} (h : Pk.ok ⟨a, b, c, d⟩ = r) (w : World) : Calls Tryd.prog 9 #[.agg #[.int .i64 a, .int .i64 b, .int .i64 c, .int .i64 d]] w fun e w' => e = .returned (.bool r) ∧ Below w.heap.size w w' := by
  subst h
  exact specPV_any a b c d w
theorem pv_b {a b c d : Int} {r : Bool} (h : Pk.ok ⟨a, b, c, d⟩ = r) {w : World} (ht : Tab w) : Calls Tryd.prog 15 #[.agg #[.int .i64 a, .int .i64 b, .int .i64 c, .int .i64 d]] w fun e w' => e = .returned (.bool r) ∧ Below w.heap.size w w' := by
  subst h
  exact pv_any a b c d w ht
end Go.Proofs.YtfcbbahlhjdefaaDoor
