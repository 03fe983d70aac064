/- Parts of all packets, witnesses, newly open packets: plain definitions and laws. -/
import Derived.Test.YtajcogpfmpehkaaGreatDoorMbMf
import Derived.Test.YtajcogpfmpehkaaGreatDoorDt
import Derived.Test.YtajcogpfmpehkaaGreatDoorCuW
namespace Go.Proofs.YtajcogpfmpehkaaGreatDoor
open Go.RowKit
/-- What the rules before place k leave: of the rule's box, or, behind all rules, of all packets. -/
def liveAt (fs : List Ft) (k : Nat) : Option (List Bx) := match fs[k]? with
  | some f => blessB f.box (fboxes (fs.take k))
  | none => blessB ball (fboxes (fs.take k))
def accAt (fs : List Ft) (r : Bool) (k : Nat) : Bool := match fs[k]? with
  | some f => f.acc
  | none => r
def addp (out : List Ft) (live : List Bx) (a : Bool) : List Ft := out ++ live.map (fun b => ⟨b, a⟩)
def partl (fs : List Ft) (r : Bool) : Nat → Option (List Ft)
  | 0 => some []
  | k + 1 => match partl fs r k with
    | none => none
    | some out => match liveAt fs k with
      | none => none
      | some live => if (addp out live (accAt fs r k)).length ≤ 400 then some (addp out live (accAt fs r k)) else none
def parts (fs : List Ft) (r : Bool) : Option (List Ft) := partl fs r (fs.length + 1)
def psel (out : List Ft) (a : Bool) : List Bx := (out.filter (fun f => decide (f.acc = a))).map Ft.box
def fparts (fs : List Ft) (r : Bool) : Option (List Ft) := if fvalid fs then parts fs r else none
def fpart (fs : List Ft) (r a : Bool) : List Bx := match fparts fs r with
  | some o => psel o a
  | none => []
theorem liveAt_lt {fs : List Ft} {k : Nat} {f : Ft} (h : fs[k]? = some f) : liveAt fs k = livek fs k := by unfold liveAt livek; rw [h]
theorem liveAt_end (fs : List Ft) : liveAt fs fs.length = blessB ball (fboxes fs) := by
  unfold liveAt
  rw [List.getElem?_eq_none_iff.2 (Nat.le_refl _), List.take_length]
theorem accAt_lt {fs : List Ft} {r : Bool} {k : Nat} {f : Ft} (h : fs[k]? = some f) : accAt fs r k = f.acc := by unfold accAt; rw [h]
theorem accAt_end (fs : List Ft) (r : Bool) : accAt fs r fs.length = r := by
  unfold accAt
  rw [List.getElem?_eq_none_iff.2 (Nat.le_refl _)]
theorem partl_none {fs : List Ft} {r : Bool} {k : Nat} (h : partl fs r k = none) : ∀ m, k ≤ m → partl fs r m = none
  | 0, hm => by rw [show k = 0 by omega] at h; exact h
  | m + 1, hm => by
    by_cases e : k = m + 1
    · rw [← e]; exact h
    · simp only [partl]
      rw [partl_none h m (by omega)]
theorem partl_step {fs : List Ft} {r : Bool} {k : Nat} {out : List Ft} (h : partl fs r k = some out) {live : List Bx} (hl : liveAt fs k = some live) :
    partl fs r (k + 1) = if (addp out live (accAt fs r k)).length ≤ 400 then some (addp out live (accAt fs r k)) else none := by
  simp only [partl]
  rw [h, hl]
theorem partl_dead {fs : List Ft} {r : Bool} {k : Nat} (hl : liveAt fs k = none) : partl fs r (k + 1) = none := by
  simp only [partl]
  rw [hl]
  cases partl fs r k <;> rfl
theorem partl_some {fs : List Ft} {r : Bool} {k : Nat} {R : List Ft} (h : partl fs r (k + 1) = some R) : ∃ out live, partl fs r k = some out ∧ liveAt fs k = some live ∧ R = addp out live (accAt fs r k) ∧ R.length ≤ 400 := by
  simp only [partl] at h
  split at h
  · cases h
  · rename_i out ho
    split at h
    · cases h
    · rename_i live hl
      split at h
      · cases h
        exact ⟨out, live, ho, hl, rfl, by assumption⟩
      · cases h
theorem ball_valid : bvalid ball = true := by decide
theorem liveAt_valid {fs : List Ft} (hv : fvalid fs = true) {k : Nat} {ys : List Bx} (h : liveAt fs k = some ys) : ∀ z ∈ ys, bvalid z = true := by
  unfold liveAt at h
  split at h
  · rename_i f hf
    exact (rvalid_all (blessB_valid (fvalid_at hv hf) h)).2
  · exact (rvalid_all (blessB_valid ball_valid h)).2
theorem liveAt_full {fs : List Ft} (hv : fvalid fs = true) {k : Nat} {ys : List Bx} (h : liveAt fs k = some ys) : ∀ z ∈ ys, bempty z = false := by
  unfold liveAt at h
  split at h
  · rename_i f hf
    exact blessB_full (fvalid_at hv hf) (fboxes_valid (fvalid_take hv k)) h
  · exact blessB_full ball_valid (fboxes_valid (fvalid_take hv k)) h
theorem partl_good {fs : List Ft} (hv : fvalid fs = true) {r : Bool} : ∀ {k : Nat} {R : List Ft}, partl fs r k = some R → R.length ≤ 400 ∧ ∀ f ∈ R, bvalid f.box = true ∧ bempty f.box = false
  | 0, R, h => by cases h; simp
  | k + 1, R, h => by
    obtain ⟨out, live, ho, hl, hR, h4⟩ := partl_some h
    obtain ⟨_, ih⟩ := partl_good hv ho
    refine ⟨h4, fun f hf => ?_⟩
    rw [hR] at hf
    unfold addp at hf
    rw [List.mem_append, List.mem_map] at hf
    rcases hf with hf | ⟨b, hb, rfl⟩
    · exact ih f hf
    · exact ⟨liveAt_valid hv hl b hb, liveAt_full hv hl b hb⟩
theorem psel_mem {out : List Ft} {a : Bool} {z : Bx} : z ∈ psel out a ↔ ∃ f ∈ out, f.acc = a ∧ f.box = z := by
  unfold psel
  simp only [List.mem_map, List.mem_filter, decide_eq_true_eq, and_assoc]
theorem psel_len (out : List Ft) (a : Bool) : (psel out a).length ≤ out.length := by
  unfold psel
  rw [List.length_map]
  exact List.length_filter_le _ _
theorem psel_both (out : List Ft) : (psel out true).length + (psel out false).length = out.length := by
  induction out with
  | nil => rfl
  | cons f fs ih =>
    unfold psel at ih ⊢
    simp only [List.length_map, List.filter_cons] at ih ⊢
    cases f.acc <;> simp at ih ⊢ <;> omega
theorem psel_add (out : List Ft) (live : List Bx) (c a : Bool) : psel (addp out live c) a = psel out a ++ (if c = a then live else []) := by
  unfold psel addp
  rw [List.filter_append, List.map_append]
  congr 1
  by_cases h : c = a
  · rw [if_pos h, List.filter_map, List.map_map]
    subst h
    induction live with
    | nil => rfl
    | cons x xs ih => simp at ih ⊢; exact ih
  · rw [if_neg h]
    induction live with
    | nil => rfl
    | cons x xs ih => simp [h]
theorem fpart_good (fs : List Ft) (r a : Bool) : (∀ z ∈ fpart fs r a, bvalid z = true) ∧ (fpart fs r a).length ≤ 400 := by
  unfold fpart
  cases h : fparts fs r with
  | none => simp
  | some o =>
    unfold fparts at h
    split at h
    · rename_i hv
      obtain ⟨h1, h2⟩ := partl_good hv h
      have := psel_len o a
      refine ⟨fun z hz => ?_, by simp only; omega⟩
      obtain ⟨f, hf, _, rfl⟩ := psel_mem.1 hz
      exact (h2 f hf).1
    · cases h
theorem ball_has {p : Pk} (hp : p.ok = true) : bhas ball p = true := by
  refine bhas_iff.2 (fun n hn => ?_)
  have h := fld_top hp hn
  rw [getD_get (ball_at hn), shas_cons, inB_iff.2 h]
  rfl
theorem liveAt_has {fs : List Ft} (hv : fvalid fs = true) {k : Nat} {ys : List Bx} (h : liveAt fs k = some ys) {p : Pk} (hp : p.ok = true) :
    ys.any (fun z => bhas z p) = ((match fs[k]? with | some f => bhas f.box p | none => true) && !(fs.take k).any (fun g => bhas g.box p)) := by
  unfold liveAt at h
  cases hf : fs[k]? with
  | some f =>
    rw [hf] at h
    rw [blessB_has (fvalid_at hv hf) (fboxes_valid (fvalid_take hv k)) h hp, any_boxes]
  | none =>
    rw [hf] at h
    rw [blessB_has ball_valid (fboxes_valid (fvalid_take hv k)) h hp, any_boxes, ball_has hp]
theorem partl_has {fs : List Ft} (hv : fvalid fs = true) {r : Bool} {p : Pk} (hp : p.ok = true) (a : Bool) : ∀ (k : Nat) {R : List Ft}, k ≤ fs.length → partl fs r k = some R →
    (psel R a).any (fun z => bhas z p) = ((fs.take k).any (fun g => bhas g.box p) && decide (jw (fs.take k) r p = a))
  | 0, R, _, h => by cases h; simp [psel]
  | k + 1, R, hk, h => by
    obtain ⟨out, live, ho, hl, hR, _⟩ := partl_some h
    have ih := partl_has hv hp a k (by omega) ho
    obtain ⟨f, hx⟩ : ∃ f, fs[k]? = some f := ⟨_, List.getElem?_eq_getElem (by omega)⟩
    have hh := liveAt_has hv hl hp
    rw [hx] at hh
    simp only at hh
    have hj : jw (fs.take (k + 1)) r p = if (fs.take k).any (fun f => bhas f.box p) then jw (fs.take k) r p else jw [f] r p := by
      rw [List.take_add_one, hx, Option.toList_some, jw_append]
    rw [hR, psel_add, List.any_append, ih, take_any_succ hx, hj, accAt_lt hx]
    by_cases hc : f.acc = a
    · rw [if_pos hc, hh]
      cases hA : (fs.take k).any (fun f => bhas f.box p) <;> cases hB : bhas f.box p <;> simp [jw, hB, hc]
    · rw [if_neg hc]
      cases hA : (fs.take k).any (fun f => bhas f.box p) <;> cases hB : bhas f.box p <;> simp [jw, hB, hc]
theorem parts_has {fs : List Ft} (hv : fvalid fs = true) {r : Bool} {p : Pk} (hp : p.ok = true) (a : Bool) {R : List Ft} (h : parts fs r = some R) :
    (psel R a).any (fun z => bhas z p) = decide (jw fs r p = a) := by
  obtain ⟨out, live, ho, hl, hR, _⟩ := partl_some h
  have ih := partl_has hv hp a fs.length (Nat.le_refl _) ho
  rw [List.take_length] at ih
  have hh := liveAt_has hv hl hp
  rw [List.getElem?_eq_none_iff.2 (Nat.le_refl _), List.take_length] at hh
  simp only [Bool.true_and] at hh
  have hj : fs.any (fun g => bhas g.box p) = false → jw fs r p = r := fun hA => by
    have : ∀ (xs : List Ft), xs.any (fun g => bhas g.box p) = false → jw xs r p = r := fun xs => by
      induction xs with
      | nil => intro _; rfl
      | cons x xs ih =>
        intro h
        rw [List.any_cons, Bool.or_eq_false_iff] at h
        simp only [jw]
        rw [h.1, ih h.2]
        rfl
    exact this fs hA
  rw [hR, psel_add, List.any_append, ih, accAt_end]
  by_cases hc : r = a
  · rw [if_pos hc, hh]
    cases hA : fs.any (fun g => bhas g.box p)
    · rw [hj hA]; simp [hc]
    · simp
  · rw [if_neg hc]
    cases hA : fs.any (fun g => bhas g.box p)
    · rw [hj hA]; simp [hc]
    · simp
/-- A common packet of two boxes, the smallest one. -/
def bcom (a b : Bx) : Option Pk := if bempty (bmeet a b) then none else some ⟨fcv a b 0, fcv a b 1, fcv a b 2, fcv a b 3⟩
theorem bcom_isSome (a b : Bx) : (bcom a b).isSome = !bempty (bmeet a b) := by
  unfold bcom
  cases bempty (bmeet a b) <;> rfl
def pk0 : Pk := ⟨0, 0, 0, 0⟩
def pkV (p : Pk) : Value := .agg #[.int .i64 p.from_, .int .i64 p.to_, .int .i64 p.port, .int .i64 p.proto]
theorem bfst_com (a b : Bx) : bfst a b = pkV ((bcom a b).getD pk0) := by
  unfold bfst bcom
  cases bempty (bmeet a b) <;> rfl
theorem bcom_none {a b : Bx} (ha : bvalid a = true) (hb : bvalid b = true) (h : bcom a b = none) (p : Pk) : (bhas a p && bhas b p) = false := by
  have h1 := bcom_isSome a b
  rw [h] at h1
  exact meet_none (bvalid_iff.1 ha).1 (bvalid_iff.1 hb).1 (by simpa using h1)
/-- The first two boxes, one of each list, that have a common packet. -/
def ftouch (A B : List Bx) : Option Pk := A.findSome? (fun x => B.findSome? (bcom x))
def fdif (fs : List Ft) (r : Bool) (gs : List Ft) (c : Bool) : Option Pk := match fparts fs r, fparts gs c with
  | some x, some y => match ftouch (psel x true) (psel y false) with
    | some p => some p
    | none => ftouch (psel x false) (psel y true)
  | _, _ => none
def fdifP (fs : List Ft) (r : Bool) (gs : List Ft) (c : Bool) : Pk := (fdif fs r gs c).getD pk0
def fsame (fs : List Ft) (r : Bool) (gs : List Ft) (c : Bool) : Int := match fparts fs r, fparts gs c with
  | some _, some _ => if (fdif fs r gs c).isSome then 0 else 1
  | _, _ => -1
def BV2 (A : List Bx) : Prop := ∀ z ∈ A, bvalid z = true
theorem ftouch_none {A B : List Bx} (ha : BV2 A) (hb : BV2 B) (h : ftouch A B = none) (p : Pk) : (A.any (fun z => bhas z p) && B.any (fun z => bhas z p)) = false := by
  unfold ftouch at h
  rw [List.findSome?_eq_none_iff] at h
  rw [← Bool.not_eq_true, Bool.and_eq_true]
  rintro ⟨h1, h2⟩
  obtain ⟨x, hx, h1⟩ := List.any_eq_true.1 h1
  obtain ⟨y, hy, h2⟩ := List.any_eq_true.1 h2
  have h3 := h x hx
  rw [List.findSome?_eq_none_iff] at h3
  have h4 := bcom_none (ha x hx) (hb y hy) (h3 y hy) p
  rw [h1, h2] at h4
  cases h4
theorem fparts_valid {fs : List Ft} {r : Bool} {x : List Ft} (h : fparts fs r = some x) : fvalid fs = true ∧ parts fs r = some x := by
  unfold fparts at h
  split at h
  · exact ⟨by assumption, h⟩
  · cases h
theorem psel_bv {fs : List Ft} {r : Bool} {x : List Ft} (h : fparts fs r = some x) (a : Bool) : BV2 (psel x a) := fun z hz => by
  obtain ⟨hv, hp⟩ := fparts_valid h
  obtain ⟨f, hf, _, rfl⟩ := psel_mem.1 hz
  exact ((partl_good hv hp).2 f hf).1
theorem fparts_has {fs : List Ft} {r : Bool} {x : List Ft} (h : fparts fs r = some x) {p : Pk} (hp : p.ok = true) (a : Bool) : (psel x a).any (fun z => bhas z p) = decide (jfl fs r p = a) := by
  obtain ⟨hv, hx⟩ := fparts_valid h
  rw [parts_has hv hp a hx]
  unfold jfl
  rw [hv, hp]
  rfl
theorem fdif_none {fs gs : List Ft} {r c : Bool} {x y : List Ft} (hx : fparts fs r = some x) (hy : fparts gs c = some y) (h : fdif fs r gs c = none) (p : Pk) (hp : p.ok = true) : jfl fs r p = jfl gs c p := by
  unfold fdif at h
  rw [hx, hy] at h
  simp only at h
  split at h
  · cases h
  · rename_i h1
    have e1 := ftouch_none (psel_bv hx true) (psel_bv hy false) h1 p
    have e2 := ftouch_none (psel_bv hx false) (psel_bv hy true) h p
    rw [fparts_has hx hp, fparts_has hy hp] at e1 e2
    revert e1 e2
    cases jfl fs r p <;> cases jfl gs c p <;> simp
theorem fsame_no {fs gs : List Ft} {r c : Bool} (h : fparts fs r = none ∨ fparts gs c = none) : fsame fs r gs c = -1 := by
  unfold fsame
  rcases h with h | h
  · rw [h]
  · rw [h]; cases fparts fs r <;> rfl
theorem fsame_yes {fs gs : List Ft} {r c : Bool} {x y : List Ft} (hx : fparts fs r = some x) (hy : fparts gs c = some y) : fsame fs r gs c = if (fdif fs r gs c).isSome then 0 else 1 := by
  unfold fsame
  rw [hx, hy]
/-- What the first list drops and the second one accepts. -/
def bopen (A B : List Bx) : List Bx := A.flatMap (fun a => (B.map (bmeet a)).filter (fun m => !bempty m))
def nopenO (fs : List Ft) (r : Bool) (gs : List Ft) (c : Bool) : Option (List Bx) := match fparts fs r, fparts gs c with
  | some x, some y => if rvalid (bopen (psel x false) (psel y true)) then some (bopen (psel x false) (psel y true)) else none
  | _, _ => none
def nopen (fs : List Ft) (r : Bool) (gs : List Ft) (c : Bool) : List Bx := (nopenO fs r gs c).getD []
theorem nopen_good (fs : List Ft) (r : Bool) (gs : List Ft) (c : Bool) : (∀ z ∈ nopen fs r gs c, bvalid z = true) ∧ (nopen fs r gs c).length ≤ 400 := by
  unfold nopen
  cases h : nopenO fs r gs c with
  | none => simp
  | some l =>
    unfold nopenO at h
    split at h
    · split at h
      · rename_i hv
        cases h
        exact ⟨(rvalid_all hv).2, (rvalid_all hv).1⟩
      · cases h
    · cases h
theorem bopen_mem {A B : List Bx} {z : Bx} : z ∈ bopen A B ↔ ∃ a ∈ A, ∃ b ∈ B, bempty (bmeet a b) = false ∧ bmeet a b = z := by
  unfold bopen
  simp only [List.mem_flatMap, List.mem_filter, List.mem_map]
  constructor
  · rintro ⟨a, ha, ⟨b, hb, rfl⟩, he⟩
    exact ⟨a, ha, b, hb, by simpa using he, rfl⟩
  · rintro ⟨a, ha, b, hb, he, rfl⟩
    exact ⟨a, ha, ⟨b, hb, rfl⟩, by simpa using he⟩
theorem bopen_has {A B : List Bx} (ha : BV2 A) (hb : BV2 B) (p : Pk) : (bopen A B).any (fun z => bhas z p) = (A.any (fun z => bhas z p) && B.any (fun z => bhas z p)) := by
  rw [Bool.eq_iff_iff, Bool.and_eq_true, List.any_eq_true, List.any_eq_true, List.any_eq_true]
  constructor
  · rintro ⟨z, hz, hp⟩
    obtain ⟨a, h1, b, h2, _, rfl⟩ := bopen_mem.1 hz
    rw [bmeet_has (bvalid_iff.1 (ha a h1)).1 (bvalid_iff.1 (hb b h2)).1, Bool.and_eq_true] at hp
    exact ⟨⟨a, h1, hp.1⟩, b, h2, hp.2⟩
  · rintro ⟨⟨a, h1, p1⟩, b, h2, p2⟩
    have la := (bvalid_iff.1 (ha a h1)).1
    have lb := (bvalid_iff.1 (hb b h2)).1
    have hm : bhas (bmeet a b) p = true := by rw [bmeet_has la lb, p1, p2]; rfl
    refine ⟨bmeet a b, bopen_mem.2 ⟨a, h1, b, h2, ?_, rfl⟩, hm⟩
    cases e : bempty (bmeet a b)
    · rfl
    · rw [bempty_has (bmeet_len la lb) e] at hm; cases hm
theorem nopenO_has {fs gs : List Ft} {r c : Bool} {l : List Bx} (h : nopenO fs r gs c = some l) {p : Pk} (hp : p.ok = true) : l.any (fun z => bhas z p) = (!jfl fs r p && jfl gs c p) := by
  unfold nopenO at h
  split at h
  · rename_i x y hx hy
    split at h
    · cases h
      rw [bopen_has (psel_bv hx false) (psel_bv hy true), fparts_has hx hp, fparts_has hy hp]
      cases jfl fs r p <;> cases jfl gs c p <;> rfl
    · cases h
  · cases h
/-- Newly open packets are a difference. -/
theorem nopenO_full {fs gs : List Ft} {r c : Bool} {l : List Bx} (h : nopenO fs r gs c = some l) (hne : l ≠ []) : fsame fs r gs c = 0 := by
  have h0 := h
  unfold nopenO at h
  split at h
  · rename_i x y hx hy
    split at h
    · rename_i hv
      cases h
      rw [fsame_yes hx hy]
      cases hd : fdif fs r gs c with
      | some p => rfl
      | none =>
        exfalso
        obtain ⟨z, hz⟩ := List.exists_mem_of_ne_nil _ hne
        have hzv := (rvalid_all hv).2 z hz
        obtain ⟨a, h1, b, h2, he, rfl⟩ := bopen_mem.1 hz
        obtain ⟨p, hp, hb⟩ := bfull_has hzv he
        have e := nopenO_has h0 hp
        rw [List.any_eq_true.2 ⟨_, hz, hb⟩, fdif_none hx hy hd p hp] at e
        cases hq : jfl gs c p <;> rw [hq] at e <;> cases e
    · cases h
  · cases h
end Go.Proofs.YtajcogpfmpehkaaGreatDoor
