/- Cutting boxes by boxes: plain definitions and laws. -/
import Derived.Test.YtnnmkdaioajkkaaDoorSwP
import Derived.Test.YtnnmkdaioajkkaaDoorFsC
namespace Go.Proofs.YtnnmkdaioajkkaaDoor
open Go.RowKit
theorem smeet_le_len {t m : Int} {a b : List Sp} (ha : sgood t m a = true) (hb : sgood t m b = true) : sgood t m (smeet a b) = true := smeet_good hb ha
/-- Box a, its sets before n met with those of b. -/
def bmix (a b : Bx) (n : Nat) : Bx := (bmeet a b).take n ++ a.drop n
def bout (a b : Bx) (n : Nat) : List Sp := smeet (a.getD n []) (sother (top n) 0 (b.getD n []))
def bpc (a b : Bx) (n : Nat) : Bx := (bmix a b n).set n (bout a b n)
def bcuts (a b : Bx) : Nat → List Bx
  | 0 => []
  | n + 1 => bcuts a b n ++ (if (bout a b n).isEmpty then [] else [bpc a b n])
def bcut (a b : Bx) : List Bx := if bempty (bmeet a b) then (if bempty a then [] else [a]) else bcuts a b 4
def bless1 (rest : List Bx) (x : Bx) : List Bx := rest.flatMap (fun b => bcut b x)
def rvalid (l : List Bx) : Bool := decide (l.length ≤ 400) && l.all bvalid
/-- What the boxes of a list leave of boxes. -/
def bless : List Bx → List Bx → Option (List Bx)
  | rest, [] => some rest
  | rest, x :: xs => if rvalid (bless1 rest x) then bless (bless1 rest x) xs else none
def bstart (b : Bx) : List Bx := if bempty b then [] else [b]
def blessB (b : Bx) (xs : List Bx) : Option (List Bx) := bless (bstart b) xs
theorem bvalid_get {b : Bx} (h : bvalid b = true) {n : Nat} (hn : n < 4) : ∃ xs, b[n]? = some xs ∧ svalid xs (top n) = true := by
  obtain ⟨h1, h2⟩ := bvalid_four h
  exact ⟨_, List.getElem?_eq_getElem (by omega), h2 n _ hn (List.getElem?_eq_getElem (by omega))⟩
theorem svalid_len {xs : List Sp} {t : Int} (h : svalid xs t = true) : xs.length ≤ 40 := by
  unfold svalid at h
  rw [Bool.and_eq_true, Bool.and_eq_true] at h
  exact of_decide_eq_true h.1.2
theorem svalid_of {xs : List Sp} {n : Nat} (hn : n < 4) (h : sgood (top n) 0 xs = true) : svalid xs (top n) = decide (xs.length ≤ 40) := by
  unfold svalid
  obtain ⟨h1, h2⟩ := top_le hn
  rw [h, inB_iff.2 ⟨h1, h2⟩]
  simp
theorem getD_get {α : Type} {l : List α} {n : Nat} {x d : α} (h : l[n]? = some x) : l.getD n d = x := by
  rw [List.getD_eq_getElem?_getD, h]; rfl
theorem bmeet_len {a b : Bx} (ha : a.length = 4) (hb : b.length = 4) : (bmeet a b).length = 4 := by
  unfold bmeet; rw [List.length_zipWith, ha, hb]; rfl
theorem bmix_len {a b : Bx} (ha : a.length = 4) (hb : b.length = 4) {n : Nat} (hn : n ≤ 4) : (bmix a b n).length = 4 := by
  unfold bmix; rw [List.length_append, List.length_take, List.length_drop, bmeet_len ha hb, ha]; omega
theorem bpc_len {a b : Bx} (ha : a.length = 4) (hb : b.length = 4) {n : Nat} (hn : n ≤ 4) : (bpc a b n).length = 4 := by
  unfold bpc; rw [List.length_set]; exact bmix_len ha hb hn
theorem bmix_lt {a b : Bx} (ha : a.length = 4) (hb : b.length = 4) {n i : Nat} (hn : n ≤ 4) (hi : i < n) : (bmix a b n)[i]? = (bmeet a b)[i]? := by
  unfold bmix
  rw [List.getElem?_append_left (by rw [List.length_take, bmeet_len ha hb]; omega), List.getElem?_take_of_lt hi]
theorem bmix_ge {a b : Bx} (ha : a.length = 4) (hb : b.length = 4) {n i : Nat} (hn : n ≤ 4) (hi : n ≤ i) : (bmix a b n)[i]? = a[i]? := by
  unfold bmix
  rw [List.getElem?_append_right (by rw [List.length_take, bmeet_len ha hb]; omega), List.length_take, bmeet_len ha hb, Nat.min_eq_left hn, List.getElem?_drop]
  congr 1; omega
theorem bpc_lt {a b : Bx} (ha : a.length = 4) (hb : b.length = 4) {n i : Nat} (hn : n < 4) (hi : i < n) : (bpc a b n)[i]? = (bmeet a b)[i]? := by
  unfold bpc
  rw [List.getElem?_set_ne (by omega), bmix_lt ha hb (by omega) hi]
theorem bpc_eq {a b : Bx} (ha : a.length = 4) (hb : b.length = 4) {n : Nat} (hn : n < 4) : (bpc a b n)[n]? = some (bout a b n) := by
  unfold bpc
  rw [List.getElem?_set_self (by rw [bmix_len ha hb (by omega)]; exact hn)]
theorem bpc_gt {a b : Bx} (ha : a.length = 4) (hb : b.length = 4) {n i : Nat} (hn : n < 4) (hi : n < i) : (bpc a b n)[i]? = a[i]? := by
  unfold bpc
  rw [List.getElem?_set_ne (by omega), bmix_ge ha hb (by omega) (by omega)]
theorem bmix_zero (a b : Bx) : bmix a b 0 = a := by simp [bmix]
theorem bmix_succ {a b : Bx} (ha : a.length = 4) (hb : b.length = 4) {n : Nat} (hn : n < 4) {x y : List Sp} (hx : a[n]? = some x) (hy : b[n]? = some y) : (bmix a b n).set n (smeet x y) = bmix a b (n + 1) := by
  apply List.ext_getElem?
  intro i
  rcases Nat.lt_trichotomy i n with h | h | h
  · rw [List.getElem?_set_ne (by omega), bmix_lt ha hb (by omega) h, bmix_lt ha hb (by omega) (by omega)]
  · subst h
    rw [List.getElem?_set_self (by rw [bmix_len ha hb (by omega)]; exact hn), bmix_lt ha hb (by omega) (by omega), bmeet_get hx hy]
  · rw [List.getElem?_set_ne (by omega), bmix_ge ha hb (by omega) (by omega), bmix_ge ha hb (by omega) (by omega)]
/-- All common sets before n are short enough. -/
def hfit (a b : Bx) (n : Nat) : Bool := (List.range n).all fun i => decide (((bmeet a b).getD i []).length ≤ 40)
theorem hfit_zero (a b : Bx) : hfit a b 0 = true := rfl
theorem hfit_succ {a b : Bx} {n : Nat} {x y : List Sp} (hx : a[n]? = some x) (hy : b[n]? = some y) : hfit a b (n + 1) = (hfit a b n && decide ((smeet x y).length ≤ 40)) := by
  unfold hfit
  rw [List.range_succ, List.all_append, List.all_cons, List.all_nil, Bool.and_true, getD_get (bmeet_get hx hy)]
theorem bout_good {a b : Bx} (ha : bvalid a = true) (hb : bvalid b = true) {n : Nat} (hn : n < 4) : sgood (top n) 0 (bout a b n) = true := by
  obtain ⟨x, hx, vx⟩ := bvalid_get ha hn
  obtain ⟨y, hy, vy⟩ := bvalid_get hb hn
  unfold bout
  rw [getD_get hx, getD_get hy]
  exact smeet_good (sother_good (svalid_good vy)) (svalid_good vx)
theorem bmeet_good {a b : Bx} (ha : bvalid a = true) (hb : bvalid b = true) {n : Nat} (hn : n < 4) : ∃ z, (bmeet a b)[n]? = some z ∧ sgood (top n) 0 z = true := by
  obtain ⟨x, hx, vx⟩ := bvalid_get ha hn
  obtain ⟨y, hy, vy⟩ := bvalid_get hb hn
  exact ⟨_, bmeet_get hx hy, smeet_good (svalid_good vy) (svalid_good vx)⟩
theorem bvalid_iff {b : Bx} : bvalid b = true ↔ b.length = 4 ∧ ∀ n, n < 4 → svalid (b.getD n []) (top n) = true := by
  constructor
  · intro h
    refine ⟨(bvalid_four h).1, fun n hn => ?_⟩
    obtain ⟨x, hx, vx⟩ := bvalid_get h hn
    rw [getD_get hx]; exact vx
  · rintro ⟨h1, h2⟩
    refine bvalid_yes h1 (fun i xs hi hx => ?_)
    have := h2 i hi
    rwa [getD_get hx] at this
theorem bpc_valid {a b : Bx} (ha : bvalid a = true) (hb : bvalid b = true) {n : Nat} (hn : n < 4) : bvalid (bpc a b n) = (hfit a b n && decide ((bout a b n).length ≤ 40)) := by
  obtain ⟨la, va⟩ := bvalid_iff.1 ha
  obtain ⟨lb, vb⟩ := bvalid_iff.1 hb
  rw [Bool.eq_iff_iff, bvalid_iff, Bool.and_eq_true, decide_eq_true_iff]
  unfold hfit
  rw [List.all_eq_true]
  constructor
  · rintro ⟨h1, h2⟩
    refine ⟨fun i hi => ?_, ?_⟩
    · have hi := List.mem_range.1 hi
      have := svalid_len (h2 i (by omega))
      rw [List.getD_eq_getElem?_getD, bpc_lt la lb hn hi, ← List.getD_eq_getElem?_getD] at this
      exact decide_eq_true this
    · have := svalid_len (h2 n hn)
      rwa [List.getD_eq_getElem?_getD, bpc_eq la lb hn] at this
  · rintro ⟨h1, h2⟩
    refine ⟨bpc_len la lb (by omega), fun i hi => ?_⟩
    rcases Nat.lt_trichotomy i n with h | h | h
    · obtain ⟨z, hz, gz⟩ := bmeet_good ha hb hi
      have h3 := of_decide_eq_true (h1 i (List.mem_range.2 h))
      rw [getD_get hz] at h3
      rw [List.getD_eq_getElem?_getD, bpc_lt la lb hn h, hz]
      simp only [Option.getD_some]
      rw [svalid_of hi gz]; exact decide_eq_true h3
    · subst h
      rw [List.getD_eq_getElem?_getD, bpc_eq la lb hn]
      simp only [Option.getD_some]
      rw [svalid_of hi (bout_good ha hb hi)]; exact decide_eq_true h2
    · rw [List.getD_eq_getElem?_getD, bpc_gt la lb hn h, ← List.getD_eq_getElem?_getD]
      exact va i hi
theorem bempty_iff {b : Bx} (h : b.length = 4) : bempty b = false ↔ ∀ n, n < 4 → (b.getD n []).isEmpty = false := by
  unfold bempty
  rw [List.any_eq_false]
  constructor
  · intro g n hn
    rw [List.getD_eq_getElem?_getD, List.getElem?_eq_getElem (by omega)]
    simpa using g _ (List.getElem_mem (by omega : n < b.length))
  · intro g x hx
    obtain ⟨i, hi⟩ := List.getElem?_of_mem hx
    have := g i (by have := (List.getElem?_eq_some_iff.1 hi).1; omega)
    rw [getD_get hi] at this
    simpa using this
theorem bcuts_mem {a b : Bx} {z : Bx} : ∀ n, z ∈ bcuts a b n ↔ ∃ i, i < n ∧ (bout a b i).isEmpty = false ∧ z = bpc a b i
  | 0 => by simp [bcuts]
  | n + 1 => by
    unfold bcuts
    rw [List.mem_append, bcuts_mem n]
    constructor
    · rintro (⟨i, h1, h2⟩ | h)
      · exact ⟨i, by omega, h2⟩
      · cases e : (bout a b n).isEmpty
        · rw [e] at h; simp at h; exact ⟨n, by omega, e, h⟩
        · rw [e] at h; simp at h
    · rintro ⟨i, h1, h2, rfl⟩
      by_cases e : i = n
      · subst e; right; rw [h2]; simp
      · exact .inl ⟨i, by omega, h2, rfl⟩
/-- Nothing of a lies in b: it stays. -/
theorem bcuts_len (a b : Bx) : ∀ n, (bcuts a b n).length ≤ n
  | 0 => Nat.le_refl _
  | n + 1 => by
    unfold bcuts
    rw [List.length_append]
    have := bcuts_len a b n
    split <;> simp <;> omega
theorem bcut_len (a b : Bx) : (bcut a b).length ≤ 4 := by
  unfold bcut
  split
  · split <;> simp
  · exact bcuts_len a b 4
theorem bmeet_has {a b : Bx} (ha : a.length = 4) (hb : b.length = 4) (p : Pk) : bhas (bmeet a b) p = (bhas a p && bhas b p) := by
  rw [Bool.eq_iff_iff, Bool.and_eq_true, bhas_iff, bhas_iff, bhas_iff]
  have key : ∀ n, n < 4 → (bmeet a b).getD n [] = smeet (a.getD n []) (b.getD n []) := fun n hn => by
    obtain ⟨x, hx⟩ : ∃ x, a[n]? = some x := ⟨_, List.getElem?_eq_getElem (by omega)⟩
    obtain ⟨y, hy⟩ : ∃ y, b[n]? = some y := ⟨_, List.getElem?_eq_getElem (by omega)⟩
    rw [getD_get hx, getD_get hy, getD_get (bmeet_get hx hy)]
  constructor
  · intro h
    refine ⟨fun n hn => ?_, fun n hn => ?_⟩ <;>
    · have := h n hn
      rw [key n hn, smeet_has, Bool.and_eq_true] at this
      first | exact this.1 | exact this.2
  · rintro ⟨h1, h2⟩ n hn
    rw [key n hn, smeet_has, h1 n hn, h2 n hn]
    rfl
theorem bempty_has {b : Bx} (hl : b.length = 4) (h : bempty b = true) (p : Pk) : bhas b p = false := by
  rw [← Bool.not_eq_true, bhas_iff]
  intro g
  rw [← Bool.not_eq_false, bempty_iff hl] at h
  refine h (fun n hn => ?_)
  have := g n hn
  cases e : (b.getD n []).isEmpty
  · rfl
  · rw [List.isEmpty_iff] at e; rw [e] at this; simp [shas] at this
theorem fld_top {p : Pk} (h : p.ok = true) {n : Nat} (hn : n < 4) : 0 ≤ p.fld n ∧ p.fld n ≤ top n := by
  cases p with
  | mk a b c d =>
  simp only [Pk.ok, Bool.and_eq_true, inB_iff] at h
  rcases (by omega : n = 0 ∨ n = 1 ∨ n = 2 ∨ n = 3) with rfl | rfl | rfl | rfl <;> simp [Pk.fld, top] <;> omega
theorem bout_has {a b : Bx} (_ha : bvalid a = true) (hb : bvalid b = true) {p : Pk} (hp : p.ok = true) {n : Nat} (hn : n < 4) : shas (bout a b n) (p.fld n) = (shas (a.getD n []) (p.fld n) && !shas (b.getD n []) (p.fld n)) := by
  obtain ⟨y, hy, vy⟩ := bvalid_get hb hn
  unfold bout
  rw [smeet_has, getD_get hy, sother_has _ (svalid_good vy)]
  obtain ⟨h1, h2⟩ := fld_top hp hn
  rw [inB_iff.2 ⟨h1, h2⟩, Bool.true_and]
theorem bpc_has {a b : Bx} (ha : bvalid a = true) (hb : bvalid b = true) {p : Pk} (hp : p.ok = true) {n : Nat} (hn : n < 4) :
    bhas (bpc a b n) p = true ↔ bhas a p = true ∧ (∀ i, i < n → shas (b.getD i []) (p.fld i) = true) ∧ shas (b.getD n []) (p.fld n) = false := by
  obtain ⟨la, va⟩ := bvalid_iff.1 ha
  obtain ⟨lb, vb⟩ := bvalid_iff.1 hb
  rw [bhas_iff, bhas_iff]
  have kl : ∀ i, i < n → (bpc a b n).getD i [] = smeet (a.getD i []) (b.getD i []) := fun i hi => by
    obtain ⟨x, hx⟩ : ∃ x, a[i]? = some x := ⟨_, List.getElem?_eq_getElem (by omega)⟩
    obtain ⟨y, hy⟩ : ∃ y, b[i]? = some y := ⟨_, List.getElem?_eq_getElem (by omega)⟩
    rw [getD_get hx, getD_get hy, List.getD_eq_getElem?_getD, bpc_lt la lb hn hi, bmeet_get hx hy]
    rfl
  have ke : (bpc a b n).getD n [] = bout a b n := getD_get (bpc_eq la lb hn)
  have kg : ∀ i, n < i → (bpc a b n).getD i [] = a.getD i [] := fun i hi => by
    rw [List.getD_eq_getElem?_getD, bpc_gt la lb hn hi, ← List.getD_eq_getElem?_getD]
  constructor
  · intro h
    have hE := h n hn
    rw [ke, bout_has ha hb hp hn, Bool.and_eq_true] at hE
    refine ⟨fun i hi => ?_, fun i hi => ?_, by simpa using hE.2⟩
    · rcases Nat.lt_trichotomy i n with g | g | g
      · have := h i hi
        rw [kl i g, smeet_has, Bool.and_eq_true] at this
        exact this.1
      · subst g; exact hE.1
      · have := h i hi
        rwa [kg i g] at this
    · have := h i (by omega)
      rw [kl i hi, smeet_has, Bool.and_eq_true] at this
      exact this.2
  · rintro ⟨h1, h2, h3⟩ i hi
    rcases Nat.lt_trichotomy i n with g | g | g
    · rw [kl i g, smeet_has, h1 i hi, h2 i g]; rfl
    · subst g
      rw [ke, bout_has ha hb hp hn, h1 i hi, h3]; rfl
    · rw [kg i g]; exact h1 i hi
theorem bcut_has {a b : Bx} (ha : bvalid a = true) (hb : bvalid b = true) {p : Pk} (hp : p.ok = true) : (bcut a b).any (fun z => bhas z p) = (bhas a p && !bhas b p) := by
  have la := (bvalid_iff.1 ha).1
  have lb := (bvalid_iff.1 hb).1
  unfold bcut
  cases em : bempty (bmeet a b)
  · simp only [Bool.false_eq_true, if_false]
    rw [Bool.eq_iff_iff, List.any_eq_true, Bool.and_eq_true]
    constructor
    · rintro ⟨z, hz, hh⟩
      obtain ⟨i, hi, he, rfl⟩ := (bcuts_mem 4).1 hz
      obtain ⟨g1, g2, g3⟩ := (bpc_has ha hb hp hi).1 hh
      refine ⟨g1, ?_⟩
      cases e : bhas b p
      · rfl
      · have := bhas_iff.1 e i hi
        rw [this] at g3; cases g3
    · rintro ⟨g1, g2⟩
      have g2 : bhas b p = false := by simpa using g2
      -- the first field that b misses
      have : ∃ n, n < 4 ∧ (∀ i, i < n → shas (b.getD i []) (p.fld i) = true) ∧ shas (b.getD n []) (p.fld n) = false := by
        cases e0 : shas (b.getD 0 []) (p.fld 0)
        · exact ⟨0, by omega, fun i hi => by omega, e0⟩
        · cases e1 : shas (b.getD 1 []) (p.fld 1)
          · exact ⟨1, by omega, fun i hi => by obtain rfl : i = 0 := by omega
                                               exact e0, e1⟩
          · cases e2 : shas (b.getD 2 []) (p.fld 2)
            · refine ⟨2, by omega, fun i hi => ?_, e2⟩
              rcases (by omega : i = 0 ∨ i = 1) with rfl | rfl <;> assumption
            · cases e3 : shas (b.getD 3 []) (p.fld 3)
              · refine ⟨3, by omega, fun i hi => ?_, e3⟩
                rcases (by omega : i = 0 ∨ i = 1 ∨ i = 2) with rfl | rfl | rfl <;> assumption
              · have : bhas b p = true := bhas_iff.2 (fun i hi => by
                  rcases (by omega : i = 0 ∨ i = 1 ∨ i = 2 ∨ i = 3) with rfl | rfl | rfl | rfl <;> assumption)
                rw [this] at g2; cases g2
      obtain ⟨n, hn, h1, h2⟩ := this
      have hh := (bpc_has ha hb hp hn).2 ⟨g1, h1, h2⟩
      refine ⟨bpc a b n, (bcuts_mem 4).2 ⟨n, hn, ?_, rfl⟩, hh⟩
      have := bhas_iff.1 hh n hn
      rw [getD_get (bpc_eq la lb hn)] at this
      cases e : (bout a b n).isEmpty
      · rfl
      · rw [List.isEmpty_iff] at e; rw [e] at this; simp [shas] at this
  · simp only [if_true]
    have hm := bempty_has (bmeet_len la lb) em p
    rw [bmeet_has la lb] at hm
    have key : (bhas a p && !bhas b p) = bhas a p := by cases e : bhas a p <;> cases e2 : bhas b p <;> simp_all
    rw [key]
    cases e : bempty a
    · simp
    · simp only [if_true]
      rw [bempty_has la e p]; rfl
theorem bless1_has {rest : List Bx} {x : Bx} (hr : ∀ z ∈ rest, bvalid z = true) (hx : bvalid x = true) {p : Pk} (hp : p.ok = true) : (bless1 rest x).any (fun z => bhas z p) = (rest.any (fun z => bhas z p) && !bhas x p) := by
  unfold bless1
  rw [List.any_flatMap]
  induction rest with
  | nil => rfl
  | cons a rest ih =>
    rw [List.any_cons, List.any_cons, ih (fun z hz => hr z (List.mem_cons_of_mem _ hz)), bcut_has (hr a List.mem_cons_self) hx hp]
    cases bhas a p <;> cases bhas x p <;> simp
theorem rvalid_all {l : List Bx} (h : rvalid l = true) : l.length ≤ 400 ∧ ∀ z ∈ l, bvalid z = true := by
  unfold rvalid at h
  rw [Bool.and_eq_true, List.all_eq_true] at h
  exact ⟨of_decide_eq_true h.1, h.2⟩
/-- What is left has just the packets that no box of the list has. -/
theorem bless_has {p : Pk} (hp : p.ok = true) : ∀ {xs rest ys : List Bx}, (∀ z ∈ rest, bvalid z = true) → (∀ z ∈ xs, bvalid z = true) → bless rest xs = some ys → ys.any (fun z => bhas z p) = (rest.any (fun z => bhas z p) && !xs.any (fun z => bhas z p))
  | [], rest, ys, _, _, h => by cases h; simp
  | x :: xs, rest, ys, hr, hx, h => by
    unfold bless at h
    split at h
    · rename_i hv
      rw [bless_has hp (rvalid_all hv).2 (fun z hz => hx z (List.mem_cons_of_mem _ hz)) h, bless1_has hr (hx x List.mem_cons_self) hp, List.any_cons]
      cases rest.any (fun z => bhas z p) <;> cases bhas x p <;> simp
    · cases h
theorem bless_valid : ∀ {xs rest ys : List Bx}, rvalid rest = true → bless rest xs = some ys → rvalid ys = true
  | [], rest, ys, hr, h => by cases h; exact hr
  | x :: xs, rest, ys, hr, h => by
    unfold bless at h
    split at h
    · rename_i hv; exact bless_valid hv h
    · cases h
theorem bstart_valid {b : Bx} (h : bvalid b = true) : rvalid (bstart b) = true := by
  unfold bstart
  split
  · rfl
  · simp [rvalid, h]
theorem blessB_has {b : Bx} {xs ys : List Bx} (hb : bvalid b = true) (hx : ∀ z ∈ xs, bvalid z = true) (h : blessB b xs = some ys) {p : Pk} (hp : p.ok = true) : ys.any (fun z => bhas z p) = (bhas b p && !xs.any (fun z => bhas z p)) := by
  rw [bless_has hp (rvalid_all (bstart_valid hb)).2 hx h]
  unfold bstart
  split
  · rename_i he
    rw [bempty_has (bvalid_iff.1 hb).1 he p]
    rfl
  · simp
/-- No box of what is left is empty. -/
theorem bcut_full {a b : Bx} (ha : bvalid a = true) (hb : bvalid b = true) (hf : bempty a = false) : ∀ z ∈ bcut a b, bempty z = false := by
  have la := (bvalid_iff.1 ha).1
  have lb := (bvalid_iff.1 hb).1
  unfold bcut
  intro z hz
  cases em : bempty (bmeet a b)
  · rw [em] at hz
    simp only [Bool.false_eq_true, if_false] at hz
    obtain ⟨n, hn, he, rfl⟩ := (bcuts_mem 4).1 hz
    rw [bempty_iff (bpc_len la lb (by omega))]
    intro i hi
    rcases Nat.lt_trichotomy i n with g | g | g
    · rw [List.getD_eq_getElem?_getD, bpc_lt la lb hn g, ← List.getD_eq_getElem?_getD]
      exact (bempty_iff (bmeet_len la lb)).1 em i hi
    · subst g
      rw [getD_get (bpc_eq la lb hn)]; exact he
    · rw [List.getD_eq_getElem?_getD, bpc_gt la lb hn g, ← List.getD_eq_getElem?_getD]
      exact (bempty_iff la).1 hf i hi
  · rw [em, hf] at hz
    simp at hz
    rw [hz]; exact hf
theorem bless1_nil (x : Bx) : bless1 [] x = [] := rfl
theorem bless_nil : ∀ xs : List Bx, bless [] xs = some []
  | [] => rfl
  | x :: xs => by unfold bless; rw [bless1_nil]; exact bless_nil xs
end Go.Proofs.YtnnmkdaioajkkaaDoor
