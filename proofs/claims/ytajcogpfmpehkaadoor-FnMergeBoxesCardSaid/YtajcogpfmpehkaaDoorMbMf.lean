/- Merging of boxes and of rules, shortening: plain laws. -/
import Derived.Test.YtajcogpfmpehkaaDoorCuW
import Derived.Test.YtajcogpfmpehkaaDoorRgI
import Derived.Test.YtajcogpfmpehkaaDoorLvP
import Derived.Test.YtajcogpfmpehkaaDoorDxBT
import Derived.Test.YtajcogpfmpehkaaDoorDxAJ
namespace Go.Proofs.YtajcogpfmpehkaaDoor
open Go.RowKit
/-- All packets of a are in b. -/
def bwithin (a b : Bx) : Bool := bempty a || (List.range 4).all fun n => (bout a b n).isEmpty
/-- The fields before k in which a and b differ. -/
def bdiff (a b : Bx) (k : Nat) : List Nat := (List.range k).filter fun n => decide (a.getD n [] ≠ b.getD n [])
def mergeU (a b : Bx) (n : Nat) : List Sp := suni (a.getD n []) (b.getD n [])
/-- The merged box, if there is one that is found. -/
def mergeB (a b : Bx) : Option Bx := if bwithin a b then some b else if bwithin b a then some a else match bdiff a b 4 with
  | [n] => if (mergeU a b n).length ≤ 40 then some (a.set n (mergeU a b n)) else none
  | _ => none
theorem bdiff_succ (a b : Bx) (k : Nat) : bdiff a b (k + 1) = bdiff a b k ++ (if a.getD k [] = b.getD k [] then [] else [k]) := by
  unfold bdiff
  rw [List.range_succ, List.filter_append]
  congr 1
  by_cases h : a.getD k [] = b.getD k []
  · rw [if_pos h]; simp only [List.filter_cons, List.filter_nil, h, ne_eq, not_true_eq_false, decide_false, Bool.false_eq_true, if_false]
  · rw [if_neg h]; simp only [List.filter_cons, List.filter_nil, ne_eq, h, not_false_eq_true, decide_true, if_true]
theorem sempty_iff {t m : Int} {xs : List Sp} (h : sgood t m xs = true) : xs.isEmpty = true ↔ ∀ n, shas xs n = false := by
  constructor
  · intro e n
    rw [List.isEmpty_iff] at e
    subst e
    rfl
  · intro g
    cases xs with
    | nil => rfl
    | cons s xs =>
      rw [sgood_cons] at h
      have := g s.lo
      rw [shas_cons, inB_iff.2 ⟨Int.le_refl _, h.2.1⟩] at this
      simp at this
theorem bgood {a : Bx} (ha : bvalid a = true) {n : Nat} (hn : n < 4) : sgood (top n) 0 (a.getD n []) = true := by
  obtain ⟨x, hx, vx⟩ := bvalid_get ha hn
  rw [getD_get hx]
  exact svalid_good vx
theorem bout_empty {a b : Bx} (ha : bvalid a = true) (hb : bvalid b = true) {n : Nat} (hn : n < 4) : (bout a b n).isEmpty = true ↔ ∀ x, shas (a.getD n []) x = true → shas (b.getD n []) x = true := by
  rw [sempty_iff (bout_good ha hb hn)]
  refine forall_congr' fun x => ?_
  unfold bout
  rw [smeet_has, sother_has x (bgood hb hn)]
  cases h : shas (a.getD n []) x
  · simp
  · have := shas_ge (bgood ha hn) h
    rw [inB_iff.2 ⟨this.1, this.2⟩]
    simp
theorem bwithin_iff {a b : Bx} (ha : bvalid a = true) (hb : bvalid b = true) : bwithin a b = true ↔ bempty a = true ∨ ∀ n, n < 4 → ∀ x, shas (a.getD n []) x = true → shas (b.getD n []) x = true := by
  unfold bwithin
  rw [Bool.or_eq_true, List.all_eq_true]
  refine or_congr Iff.rfl ⟨fun h n hn => (bout_empty ha hb hn).1 (h n (List.mem_range.2 hn)), fun h n hn => (bout_empty ha hb (List.mem_range.1 hn)).2 (h n (List.mem_range.1 hn))⟩
theorem bempty_some {b : Bx} (hl : b.length = 4) : bempty b = true ↔ ∃ n, n < 4 ∧ (b.getD n []).isEmpty = true := by
  rw [← Bool.not_eq_false, bempty_iff hl]
  constructor
  · intro h
    cases e0 : (b.getD 0 []).isEmpty
    · cases e1 : (b.getD 1 []).isEmpty
      · cases e2 : (b.getD 2 []).isEmpty
        · cases e3 : (b.getD 3 []).isEmpty
          · refine absurd (fun n hn => ?_) h
            rcases (by omega : n = 0 ∨ n = 1 ∨ n = 2 ∨ n = 3) with rfl | rfl | rfl | rfl <;> assumption
          · exact ⟨3, by omega, e3⟩
        · exact ⟨2, by omega, e2⟩
      · exact ⟨1, by omega, e1⟩
    · exact ⟨0, by omega, e0⟩
  · rintro ⟨n, hn, h⟩ g
    rw [g n hn] at h; cases h
theorem bcuts_empty (a b : Bx) : ∀ n, (bcuts a b n).isEmpty = (List.range n).all fun i => (bout a b i).isEmpty
  | 0 => rfl
  | n + 1 => by
    have ih := bcuts_empty a b n
    rw [List.range_succ, List.all_append, ← ih]
    rw [show bcuts a b (n + 1) = bcuts a b n ++ (if (bout a b n).isEmpty then [] else [bpc a b n]) from rfl]
    cases e : (bout a b n).isEmpty
    · simp only [Bool.false_eq_true, if_false, List.all_cons, List.all_nil, e, Bool.false_and, Bool.and_false]
      cases bcuts a b n <;> rfl
    · simp [e]
/-- Nothing is cut off exactly if the box lies within the other one. -/
theorem bcut_empty {a b : Bx} (ha : bvalid a = true) (hb : bvalid b = true) : (bcut a b).isEmpty = bwithin a b := by
  have la := (bvalid_iff.1 ha).1
  have lb := (bvalid_iff.1 hb).1
  unfold bcut
  cases em : bempty (bmeet a b)
  · simp only [Bool.false_eq_true, if_false]
    rw [bcuts_empty]
    unfold bwithin
    cases ea : bempty a
    · rfl
    · rw [bempty_meet la lb ea] at em; cases em
  · simp only [if_true]
    cases ea : bempty a
    · simp only [Bool.false_eq_true, if_false, List.isEmpty_cons]
      symm
      rw [← Bool.not_eq_true, bwithin_iff ha hb, ea]
      rintro (h | h)
      · cases h
      · obtain ⟨n, hn, he⟩ := (bempty_some (bmeet_len la lb)).1 em
        obtain ⟨x, hx, vx⟩ := bvalid_get ha hn
        obtain ⟨y, hy, vy⟩ := bvalid_get hb hn
        rw [getD_get (bmeet_get hx hy), sempty_iff (smeet_good (svalid_good vy) (svalid_good vx))] at he
        have h1 := (bempty_iff la).1 ea n hn
        rw [getD_get hx] at h1
        have h2 : ¬ ∀ k, shas x k = false := fun g => by rw [(sempty_iff (svalid_good vx)).2 g] at h1; cases h1
        refine h2 (fun k => ?_)
        have h3 := he k
        rw [smeet_has] at h3
        have h4 := h n hn k
        rw [getD_get hx, getD_get hy] at h4
        cases e : shas x k
        · rfl
        · rw [e, h4 e] at h3; cases h3
    · unfold bwithin
      rw [ea]
      rfl
theorem bwithin_refl {a : Bx} (ha : bvalid a = true) : bwithin a a = true := (bwithin_iff ha ha).2 (.inr (fun _ _ _ h => h))
theorem bwithin_has {a b : Bx} (ha : bvalid a = true) (hb : bvalid b = true) (h : bwithin a b = true) (p : Pk) (hp : bhas a p = true) : bhas b p = true := by
  rcases (bwithin_iff ha hb).1 h with h | h
  · rw [bempty_has (bvalid_iff.1 ha).1 h p] at hp; cases hp
  · rw [bhas_iff] at hp ⊢
    exact fun n hn => h n hn _ (hp n hn)
theorem bdiff_mem {a b : Bx} {n : Nat} : n ∈ bdiff a b 4 ↔ n < 4 ∧ a.getD n [] ≠ b.getD n [] := by simp [bdiff]
theorem bdiff_one {a b : Bx} {n : Nat} (h : bdiff a b 4 = [n]) : n < 4 ∧ ∀ i, i < 4 → i ≠ n → a.getD i [] = b.getD i [] := by
  refine ⟨(bdiff_mem.1 (by rw [h]; simp)).1, fun i hi hne => ?_⟩
  by_cases e : a.getD i [] = b.getD i []
  · exact e
  · have := bdiff_mem.2 ⟨hi, e⟩
    rw [h] at this
    simp at this
    exact absurd this hne
theorem mergeU_has {a b : Bx} (ha : bvalid a = true) (hb : bvalid b = true) {n : Nat} (hn : n < 4) (x : Int) : shas (mergeU a b n) x = (shas (a.getD n []) x || shas (b.getD n []) x) :=
  suni_has x (bgood hb hn) (bgood ha hn)
theorem mergeU_good {a b : Bx} (ha : bvalid a = true) (hb : bvalid b = true) {n : Nat} (hn : n < 4) : sgood (top n) 0 (mergeU a b n) = true := by
  obtain ⟨m, hm⟩ := suni_good (bgood hb hn) (bgood ha hn)
  by_cases h : 0 ≤ m
  · exact sgood_mono hm h
  · cases e : mergeU a b n with
    | nil => rfl
    | cons s xs =>
      have hm2 : sgood (top n) m (s :: xs) = true := by rw [← e]; exact hm
      rw [sgood_cons] at hm2 ⊢
      have h1 : shas (mergeU a b n) s.lo = true := by rw [e, shas_cons, inB_iff.2 ⟨Int.le_refl _, hm2.2.1⟩]; rfl
      rw [mergeU_has ha hb hn, Bool.or_eq_true] at h1
      refine ⟨?_, hm2.2⟩
      rcases h1 with h1 | h1
      · exact (shas_ge (bgood ha hn) h1).1
      · exact (shas_ge (bgood hb hn) h1).1
theorem set_getD {a : Bx} (la : a.length = 4) {n : Nat} (hn : n < 4) (xs : List Sp) (i : Nat) : (a.set n xs).getD i [] = if i = n then xs else a.getD i [] := by
  rw [List.getD_eq_getElem?_getD]
  by_cases h : i = n
  · subst h; rw [List.getElem?_set_self (by omega), if_pos rfl]; rfl
  · rw [List.getElem?_set_ne (by omega), if_neg h, ← List.getD_eq_getElem?_getD]
theorem mergeB_cases {a b c : Bx} (h : mergeB a b = some c) : (bwithin a b = true ∧ c = b) ∨ (bwithin b a = true ∧ c = a) ∨ ∃ n, bdiff a b 4 = [n] ∧ (mergeU a b n).length ≤ 40 ∧ c = a.set n (mergeU a b n) := by
  unfold mergeB at h
  split at h
  · rename_i h1; exact .inl ⟨h1, (Option.some.inj h).symm⟩
  · split at h
    · rename_i h1; exact .inr (.inl ⟨h1, (Option.some.inj h).symm⟩)
    · split at h
      · rename_i n hd
        split at h
        · rename_i hl; exact .inr (.inr ⟨n, hd, hl, (Option.some.inj h).symm⟩)
        · cases h
      · cases h
theorem mergeB_sides {a b : Bx} (ha : bvalid a = true) (hb : bvalid b = true) {n : Nat} (hd : bdiff a b 4 = [n]) (i : Nat) (hi : i < 4) (x : Int) :
    shas ((a.set n (mergeU a b n)).getD i []) x = (shas (a.getD i []) x || shas (b.getD i []) x) := by
  obtain ⟨hn, ho⟩ := bdiff_one hd
  rw [set_getD (bvalid_iff.1 ha).1 hn]
  by_cases e : i = n
  · subst e; rw [if_pos rfl, mergeU_has ha hb hn]
  · rw [if_neg e, ho i hi e, Bool.or_self]
theorem mergeB_valid {a b c : Bx} (ha : bvalid a = true) (hb : bvalid b = true) (h : mergeB a b = some c) : bvalid c = true := by
  rcases mergeB_cases h with ⟨_, rfl⟩ | ⟨_, rfl⟩ | ⟨n, hd, hl, rfl⟩
  · exact hb
  · exact ha
  · obtain ⟨hn, _⟩ := bdiff_one hd
    obtain ⟨la, va⟩ := bvalid_iff.1 ha
    refine bvalid_iff.2 ⟨by rw [List.length_set]; exact la, fun i hi => ?_⟩
    rw [set_getD la hn]
    split
    · rename_i e; subst e; rw [svalid_of hn (mergeU_good ha hb hn)]; exact decide_eq_true hl
    · exact va i hi
theorem mergeB_has {a b c : Bx} (ha : bvalid a = true) (hb : bvalid b = true) (h : mergeB a b = some c) (p : Pk) : bhas c p = (bhas a p || bhas b p) := by
  rcases mergeB_cases h with ⟨hw, rfl⟩ | ⟨hw, rfl⟩ | ⟨n, hd, hl, rfl⟩
  · cases e : bhas a p
    · rfl
    · rw [bwithin_has ha hb hw p e]; rfl
  · cases e : bhas b p
    · simp
    · rw [bwithin_has hb ha hw p e]; rfl
  · obtain ⟨hn, ho⟩ := bdiff_one hd
    have hA := mergeB_sides ha hb hd
    rw [Bool.eq_iff_iff, Bool.or_eq_true, bhas_iff, bhas_iff, bhas_iff]
    constructor
    · intro g
      have gn := g n hn
      rw [hA n hn, Bool.or_eq_true] at gn
      have go : ∀ i, i < 4 → i ≠ n → shas (a.getD i []) (p.fld i) = true ∧ shas (b.getD i []) (p.fld i) = true := fun i hi hne => by
        have := g i hi
        rw [hA i hi, ho i hi hne, Bool.or_self] at this
        rw [ho i hi hne]
        exact ⟨this, this⟩
      rcases gn with gn | gn
      · left; intro i hi
        by_cases e : i = n
        · subst e; exact gn
        · exact (go i hi e).1
      · right; intro i hi
        by_cases e : i = n
        · subst e; exact gn
        · exact (go i hi e).2
    · rintro (g | g) i hi
      · rw [hA i hi, g i hi]; rfl
      · rw [hA i hi, g i hi]; simp
theorem mergeB_within {a b c : Bx} (ha : bvalid a = true) (hb : bvalid b = true) (h : mergeB a b = some c) : bwithin a c = true ∧ bwithin b c = true := by
  have hc := mergeB_valid ha hb h
  rcases mergeB_cases h with ⟨hw, rfl⟩ | ⟨hw, rfl⟩ | ⟨n, hd, hl, rfl⟩
  · exact ⟨hw, bwithin_refl hb⟩
  · exact ⟨bwithin_refl ha, hw⟩
  · have hA := mergeB_sides ha hb hd
    refine ⟨(bwithin_iff ha hc).2 (.inr (fun i hi x hx => ?_)), (bwithin_iff hb hc).2 (.inr (fun i hi x hx => ?_))⟩
    · rw [hA i hi, hx]; rfl
    · rw [hA i hi, hx]; simp
/-- A box that is not empty has a packet. -/
theorem bfull_has {b : Bx} (hv : bvalid b = true) (h : bempty b = false) : ∃ p : Pk, p.ok = true ∧ bhas b p = true := by
  obtain ⟨hl, _⟩ := bvalid_iff.1 hv
  have key : ∀ n, n < 4 → ∃ x, 0 ≤ x ∧ x ≤ top n ∧ shas (b.getD n []) x = true := fun n hn => by
    have h1 := (bempty_iff hl).1 h n hn
    have h2 := bgood hv hn
    cases e : b.getD n [] with
    | nil => rw [e] at h1; cases h1
    | cons s xs =>
      rw [e, sgood_cons] at h2
      have h3 : shas (s :: xs) s.lo = true := by rw [shas_cons, inB_iff.2 ⟨Int.le_refl _, h2.2.1⟩]; rfl
      exact ⟨s.lo, by omega, by omega, h3⟩
  obtain ⟨x0, a0, b0, c0⟩ := key 0 (by omega)
  obtain ⟨x1, a1, b1, c1⟩ := key 1 (by omega)
  obtain ⟨x2, a2, b2, c2⟩ := key 2 (by omega)
  obtain ⟨x3, a3, b3, c3⟩ := key 3 (by omega)
  refine ⟨⟨x0, x1, x2, x3⟩, ?_, bhas_iff.2 (fun n hn => ?_)⟩
  · have t0 : top 0 = 65535 := rfl
    have t1 : top 1 = 65535 := rfl
    have t2 : top 2 = 255 := rfl
    have t3 : top 3 = 7 := rfl
    simp only [Pk.ok, Bool.and_eq_true, inB_iff]
    omega
  · rcases (by omega : n = 0 ∨ n = 1 ∨ n = 2 ∨ n = 3) with rfl | rfl | rfl | rfl <;> assumption
theorem bless1_full {rest : List Bx} {x : Bx} (hr : ∀ z ∈ rest, bvalid z = true ∧ bempty z = false) (hx : bvalid x = true) : ∀ z ∈ bless1 rest x, bempty z = false := by
  intro z hz
  unfold bless1 at hz
  obtain ⟨a, ha, hz⟩ := List.mem_flatMap.1 hz
  exact bcut_full (hr a ha).1 hx (hr a ha).2 z hz
theorem bless_full : ∀ {xs rest ys : List Bx}, (∀ z ∈ rest, bvalid z = true ∧ bempty z = false) → (∀ z ∈ xs, bvalid z = true) → bless rest xs = some ys → ∀ z ∈ ys, bempty z = false
  | [], rest, ys, hr, _, h => by cases h; exact fun z hz => (hr z hz).2
  | x :: xs, rest, ys, hr, hx, h => by
    unfold bless at h
    split at h
    · rename_i hv
      exact bless_full (fun z hz => ⟨(rvalid_all hv).2 z hz, bless1_full hr (hx x List.mem_cons_self) z hz⟩) (fun z hz => hx z (List.mem_cons_of_mem _ hz)) h
    · cases h
theorem blessB_full {b : Bx} {xs ys : List Bx} (hb : bvalid b = true) (hx : ∀ z ∈ xs, bvalid z = true) (h : blessB b xs = some ys) : ∀ z ∈ ys, bempty z = false := by
  refine bless_full (rest := bstart b) (fun z hz => ?_) hx h
  unfold bstart at hz
  split at hz
  · simp at hz
  · rename_i he
    rw [List.mem_singleton] at hz
    subst hz
    exact ⟨hb, by simpa using he⟩
/-- What is left of a box without packets outside is nothing. -/
theorem blessB_nil {b : Bx} {xs ys : List Bx} (hb : bvalid b = true) (hx : ∀ z ∈ xs, bvalid z = true) (h : blessB b xs = some ys) (hp : ∀ p : Pk, p.ok = true → bhas b p = true → xs.any (fun z => bhas z p) = true) : ys = [] := by
  cases ys with
  | nil => rfl
  | cons z zs =>
    have hv := (rvalid_all (blessB_valid hb h)).2 z List.mem_cons_self
    obtain ⟨p, h1, h2⟩ := bfull_has hv (blessB_full hb hx h z List.mem_cons_self)
    have h3 := blessB_has hb hx h h1
    rw [List.any_cons, h2, Bool.true_or] at h3
    have h4 := h3.symm
    rw [Bool.and_eq_true] at h4
    rw [hp p h1 h4.1] at h4
    simp at h4
theorem merge_rest {a b c : Bx} {ys : List Bx} (ha : bvalid a = true) (hb : bvalid b = true) (h : mergeB a b = some c) (hy : blessB c [a, b] = some ys) : ys = [] := by
  refine blessB_nil (mergeB_valid ha hb h) (fun z hz => ?_) hy (fun p _ hp => ?_)
  · simp at hz; rcases hz with rfl | rfl <;> assumption
  · rw [mergeB_has ha hb h] at hp
    simpa using hp
/-- Both boxes have the same packets. -/
def bsame (a b : Bx) : Bool := if bempty a || bempty b then bempty a && bempty b else decide (a = b)
/-- Two neighbours as one rule. -/
def mrg (f g : Ft) : Option Ft := if f.acc = g.acc then (mergeB f.box g.box).map (fun c => ⟨c, f.acc⟩) else none
def mrgAt (fs : List Ft) (k : Nat) : Option Ft := match fs[k]?, fs[k + 1]? with
  | some f, some g => mrg f g
  | _, _ => none
def mfirst (fs : List Ft) : Option Nat := (List.range fs.length).find? (fun k => (mrgAt fs k).isSome)
def mput (fs : List Ft) (k : Nat) (h : Ft) : List Ft := fs.take k ++ h :: fs.drop (k + 2)
def mred : Nat → List Ft → List Ft
  | 0, fs => fs
  | n + 1, fs => match mfirst fs with
    | none => fs
    | some k => match mrgAt fs k with
      | none => fs
      | some h => mred n (mput fs k h)
def mgd (fs : List Ft) : List Ft := mred fs.length fs
def mgf (fs : List Ft) : List Ft := if fvalid fs then mgd fs else []
theorem mrgAt_some {fs : List Ft} {k : Nat} {h : Ft} (e : mrgAt fs k = some h) : ∃ f g, fs[k]? = some f ∧ fs[k + 1]? = some g ∧ mrg f g = some h := by
  unfold mrgAt at e
  split at e
  · rename_i f g hf hg
    exact ⟨f, g, hf, hg, e⟩
  · cases e
theorem mrgAt_lt {fs : List Ft} {k : Nat} {h : Ft} (e : mrgAt fs k = some h) : k + 1 < fs.length := by
  obtain ⟨f, g, _, hg, _⟩ := mrgAt_some e
  exact (List.getElem?_eq_some_iff.1 hg).1
theorem mfirst_none {fs : List Ft} : mfirst fs = none ↔ ∀ k, mrgAt fs k = none := by
  unfold mfirst
  rw [List.find?_eq_none]
  constructor
  · intro h k
    cases e : mrgAt fs k with
    | none => rfl
    | some x =>
      have := mrgAt_lt e
      exact absurd (by rw [e]; rfl) (h k (List.mem_range.2 (by omega)))
  · intro h k _
    rw [h k]; simp
theorem mgd_fix {fs : List Ft} (h : mfirst fs = none) : mgd fs = fs := by
  unfold mgd
  cases hn : fs.length with
  | zero => rfl
  | succ n => simp only [mred]; rw [h]
/-- No pair before place i can be merged, and what comes out is as for the whole list. -/
def MgI (fs out : List Ft) (i : Nat) : Prop := (∀ j, j < i → mrgAt out j = none) ∧ mgd out = mgd fs
theorem MgI.start (fs : List Ft) : MgI fs fs 0 := ⟨fun _ h => by omega, rfl⟩
theorem MgI.next {fs out : List Ft} {i : Nat} (h : MgI fs out i) (e : mrgAt out i = none) : MgI fs out (i + 1) := ⟨fun j hj => by
  rcases Nat.lt_or_ge j i with h1 | h1
  · exact h.1 j h1
  · rw [show j = i by omega]; exact e, h.2⟩
theorem MgI.done {fs out : List Ft} {i : Nat} (h : MgI fs out i) (hi : out.length ≤ i + 1) : mgd fs = out := by
  rw [← h.2]
  exact mgd_fix (mfirst_none.2 (fun k => by
    rcases Nat.lt_or_ge k i with h1 | h1
    · exact h.1 k h1
    · cases e : mrgAt out k with
      | none => rfl
      | some x => have := mrgAt_lt e; omega))
/-- One round of shortening. -/
def sho1 (fs : List Ft) (r : Bool) : List Ft := ttrim (mgf (dropd fs)) r
def shor : Nat → List Ft → Bool → List Ft
  | 0, fs, _ => fs
  | n + 1, fs, r => if (sho1 fs r).length = fs.length then sho1 fs r else shor n (sho1 fs r) r
def sho (fs : List Ft) (r : Bool) : List Ft := shor fs.length fs r
def shoB (fs : List Ft) (r : Bool) : List Ft := if fvalid fs then sho fs r else []
end Go.Proofs.YtajcogpfmpehkaaDoor
