/- Parts of all packets, witnesses, newly open packets: plain definitions and laws. -/
import Derived.Test.YtfcbbahlhjdefaaGreatDoorDxBT
import Derived.Test.YtfcbbahlhjdefaaGreatDoorFnX
import Derived.Test.YtfcbbahlhjdefaaGreatDoorCuW
import Derived.Test.YtfcbbahlhjdefaaGreatDoorRgI
import Derived.Test.YtfcbbahlhjdefaaGreatDoorDt
/- Lists of boxes in the exact laws; live parts and dead rules: plain laws. -/
namespace Go.Proofs.YtfcbbahlhjdefaaGreatDoor
open Go.RowKit
/-- Boxes of the call's own. -/
def GBs : World → Nat → Nat → Value → List Bx → Prop := OwnG 41 1 enc1 GRw
theorem GBs.kind : Kind GBs := OwnG.kind GRw.kind
theorem GBs.bxs {w : World} {lo hi : Nat} {v : Value} {bs : List Bx} (h : GBs w lo hi v bs) : Bxs lo w v bs := by
  obtain ⟨vs, h1, h2, h3, h4⟩ := h
  exact ⟨vs, OwnSl.fr (sz := 1) (enc := enc1) (fun _ => rfl) h1, h4.all2 (GRw.kind.leO w _) (fun l m x y g1 _ g3 => Rws.mono g3.1.rws g1)⟩
theorem GBs.form {w : World} {lo hi : Nat} {v : Value} {bs : List Bx} (h : GBs w lo hi v bs) : ∃ a cap, v = .slice a bs.length cap ∧ bs.length ≤ cap ∧ cap ≤ maxLen := Bxs.form h.bxs
theorem GBs.nil (w : World) {lo hi : Nat} (h : lo ≤ hi) : GBs w lo hi (.slice none 0 0) [] := ⟨[], World.ownsRow_nil _ _ _ _, (fun z hz => by cases hz), h, h⟩
/-- What the rules before rule k leave of its box. -/
def livek (fs : List Ft) (k : Nat) : Option (List Bx) := match fs[k]? with
  | some f => blessB f.box (fboxes (fs.take k))
  | none => none
def livep (fs : List Ft) (n : Int) : Option (List Bx) := if fvalid fs && inB n 0 ((fs.length : Int) - 1) then livek fs n.toNat else none
def livef (fs : List Ft) (n : Int) : List Bx := (livep fs n).getD []
/-- Rule k decides about nothing. -/
def deadk (fs : List Ft) (k : Nat) : Bool := match livek fs k with
  | some [] => true
  | _ => false
def deadl (fs : List Ft) : Nat → List Int
  | 0 => []
  | k + 1 => deadl fs k ++ (if deadk fs k then [(k : Int)] else [])
def deads (fs : List Ft) : List Int := if fvalid fs then deadl fs fs.length else []
def dropl (fs : List Ft) : Nat → List Ft
  | 0 => []
  | k + 1 => dropl fs k ++ (if deadk fs k then [] else (fs[k]?).toList)
def dropd (fs : List Ft) : List Ft := if fvalid fs then dropl fs fs.length else []
end Go.Proofs.YtfcbbahlhjdefaaGreatDoor
/- Merging of boxes and of rules, shortening: plain laws. -/
namespace Go.Proofs.YtfcbbahlhjdefaaGreatDoor
open Go.RowKit
/-- All packets of a are in b. -/
def bwithin (a b : Bx) : Bool := bempty a || (List.range 4).all fun n => (bout a b n).isEmpty
/-- The fields before k in which a and b differ. -/
def bdiff (a b : Bx) (k : Nat) : List Nat := (List.range k).filter fun n => decide (a.getD n [] ≠ b.getD n [])
def mergeU (a b : Bx) (n : Nat) : List Sp := suni (a.getD n []) (b.getD n [])
/-- The merged box, if there is one that is found. -/
def mergeB (a b : Bx) : Option Bx := if bwithin a b then some b else if bwithin b a then some a else match bdiff a b 4 with
  | [n] => if (mergeU a b n).length ≤ 40 then some (a.set n (mergeU a b n)) else none
  | _ => none
/-- Both boxes have the same packets. -/
def bsame (a b : Bx) : Bool := if bempty a || bempty b then bempty a && bempty b else decide (a = b)
/-- Two neighbours as one rule. -/
def mrg (f g : Ft) : Option Ft := if f.acc = g.acc then (mergeB f.box g.box).map (fun c => ⟨c, f.acc⟩) else none
def mrgAt (fs : List Ft) (k : Nat) : Option Ft := match fs[k]?, fs[k + 1]? with
  | some f, some g => mrg f g
  | _, _ => none
def mfirst (fs : List Ft) : Option Nat := (List.range fs.length).find? (fun k => (mrgAt fs k).isSome)
def mput (fs : List Ft) (k : Nat) (h : Ft) : List Ft := fs.take k ++ h :: fs.drop (k + 2)
def mred : Nat → List Ft → List Ft
  | 0, fs => fs
  | n + 1, fs => match mfirst fs with
    | none => fs
    | some k => match mrgAt fs k with
      | none => fs
      | some h => mred n (mput fs k h)
def mgd (fs : List Ft) : List Ft := mred fs.length fs
def mgf (fs : List Ft) : List Ft := if fvalid fs then mgd fs else []
theorem mrgAt_some {fs : List Ft} {k : Nat} {h : Ft} (e : mrgAt fs k = some h) : ∃ f g, fs[k]? = some f ∧ fs[k + 1]? = some g ∧ mrg f g = some h := by
  unfold mrgAt at e
  split at e
  · rename_i f g hf hg
    exact ⟨f, g, hf, hg, e⟩
  · cases e
theorem mrgAt_lt {fs : List Ft} {k : Nat} {h : Ft} (e : mrgAt fs k = some h) : k + 1 < fs.length := by
  obtain ⟨f, g, _, hg, _⟩ := mrgAt_some e
  exact (List.getElem?_eq_some_iff.1 hg).1
theorem mfirst_none {fs : List Ft} : mfirst fs = none ↔ ∀ k, mrgAt fs k = none := by
  unfold mfirst
  rw [List.find?_eq_none]
  constructor
  · intro h k
    cases e : mrgAt fs k with
    | none => rfl
    | some x =>
      have := mrgAt_lt e
      exact absurd (by rw [e]; rfl) (h k (List.mem_range.2 (by omega)))
  · intro h k _
    rw [h k]; simp
theorem mfirst_some {fs : List Ft} {k : Nat} (h : ∀ j, j < k → mrgAt fs j = none) {x : Ft} (e : mrgAt fs k = some x) : mfirst fs = some k := by
  unfold mfirst
  rw [List.find?_range_eq_some]
  refine ⟨by rw [e]; rfl, List.mem_range.2 (by have := mrgAt_lt e; omega), fun j hj => by rw [h j hj]; rfl⟩
theorem mput_len {fs : List Ft} {k : Nat} {h : Ft} (hk : k + 1 < fs.length) : (mput fs k h).length + 1 = fs.length := by
  unfold mput
  rw [List.length_append, List.length_take, List.length_cons, List.length_drop]
  omega
theorem mgd_fix {fs : List Ft} (h : mfirst fs = none) : mgd fs = fs := by
  unfold mgd
  cases hn : fs.length with
  | zero => rfl
  | succ n => simp only [mred]; rw [h]
theorem mgd_step {fs : List Ft} {k : Nat} {x : Ft} (h : mfirst fs = some k) (e : mrgAt fs k = some x) : mgd fs = mgd (mput fs k x) := by
  have hk := mrgAt_lt e
  have hl := mput_len (h := x) hk
  unfold mgd
  rw [← hl]
  simp only [mred]
  rw [h]
  simp only [e]
theorem fvalid_all {fs : List Ft} : fvalid fs = true ↔ fs.length ≤ 60 ∧ ∀ f ∈ fs, bvalid f.box = true := by
  unfold fvalid
  rw [Bool.and_eq_true, decide_eq_true_eq, List.all_eq_true]
/-- The program's search goes back by one only. -/
theorem mput_get {fs : List Ft} {k j : Nat} {h : Ft} (hk : k + 1 < fs.length) (hj : j < k) : (mput fs k h)[j]? = fs[j]? := by
  unfold mput
  rw [List.getElem?_append_left (by rw [List.length_take]; omega), List.getElem?_take_of_lt hj]
theorem mput_before {fs : List Ft} {k j : Nat} {h : Ft} (hk : k + 1 < fs.length) (hj : j + 1 < k) : mrgAt (mput fs k h) j = mrgAt fs j := by
  unfold mrgAt
  rw [mput_get hk (by omega), mput_get hk (by omega)]
/-- No pair before place i can be merged, and what comes out is as for the whole list. -/
def MgI (fs out : List Ft) (i : Nat) : Prop := (∀ j, j < i → mrgAt out j = none) ∧ mgd out = mgd fs
theorem MgI.next {fs out : List Ft} {i : Nat} (h : MgI fs out i) (e : mrgAt out i = none) : MgI fs out (i + 1) := ⟨fun j hj => by
  rcases Nat.lt_or_ge j i with h1 | h1
  · exact h.1 j h1
  · rw [show j = i by omega]; exact e, h.2⟩
theorem MgI.back {fs out : List Ft} {i : Nat} {x : Ft} (h : MgI fs out i) (e : mrgAt out i = some x) : MgI fs (mput out i x) (i - 1) := ⟨fun j hj => by
  rw [mput_before (mrgAt_lt e) (by omega)]
  exact h.1 j (by omega), (mgd_step (mfirst_some h.1 e) e).symm.trans h.2⟩
theorem MgI.done {fs out : List Ft} {i : Nat} (h : MgI fs out i) (hi : out.length ≤ i + 1) : mgd fs = out := by
  rw [← h.2]
  exact mgd_fix (mfirst_none.2 (fun k => by
    rcases Nat.lt_or_ge k i with h1 | h1
    · exact h.1 k h1
    · cases e : mrgAt out k with
      | none => rfl
      | some x => have := mrgAt_lt e; omega))
/-- One round of shortening. -/
def sho1 (fs : List Ft) (r : Bool) : List Ft := ttrim (mgf (dropd fs)) r
def shor : Nat → List Ft → Bool → List Ft
  | 0, fs, _ => fs
  | n + 1, fs, r => if (sho1 fs r).length = fs.length then sho1 fs r else shor n (sho1 fs r) r
def sho (fs : List Ft) (r : Bool) : List Ft := shor fs.length fs r
def shoB (fs : List Ft) (r : Bool) : List Ft := if fvalid fs then sho fs r else []
end Go.Proofs.YtfcbbahlhjdefaaGreatDoor
namespace Go.Proofs.YtfcbbahlhjdefaaGreatDoor
open Go.RowKit
/-- What the rules before place k leave: of the rule's box, or, behind all rules, of all packets. -/
def liveAt (fs : List Ft) (k : Nat) : Option (List Bx) := match fs[k]? with
  | some f => blessB f.box (fboxes (fs.take k))
  | none => blessB ball (fboxes (fs.take k))
def accAt (fs : List Ft) (r : Bool) (k : Nat) : Bool := match fs[k]? with
  | some f => f.acc
  | none => r
def addp (out : List Ft) (live : List Bx) (a : Bool) : List Ft := out ++ live.map (fun b => ⟨b, a⟩)
def partl (fs : List Ft) (r : Bool) : Nat → Option (List Ft)
  | 0 => some []
  | k + 1 => match partl fs r k with
    | none => none
    | some out => match liveAt fs k with
      | none => none
      | some live => if (addp out live (accAt fs r k)).length ≤ 400 then some (addp out live (accAt fs r k)) else none
def parts (fs : List Ft) (r : Bool) : Option (List Ft) := partl fs r (fs.length + 1)
def psel (out : List Ft) (a : Bool) : List Bx := (out.filter (fun f => decide (f.acc = a))).map Ft.box
def fparts (fs : List Ft) (r : Bool) : Option (List Ft) := if fvalid fs then parts fs r else none
def fpart (fs : List Ft) (r a : Bool) : List Bx := match fparts fs r with
  | some o => psel o a
  | none => []
/-- A common packet of two boxes, the smallest one. -/
def bcom (a b : Bx) : Option Pk := if bempty (bmeet a b) then none else some ⟨fcv a b 0, fcv a b 1, fcv a b 2, fcv a b 3⟩
def pk0 : Pk := ⟨0, 0, 0, 0⟩
def pkV (p : Pk) : Value := .agg #[.int .i64 p.from_, .int .i64 p.to_, .int .i64 p.port, .int .i64 p.proto]
/-- The first two boxes, one of each list, that have a common packet. -/
def ftouch (A B : List Bx) : Option Pk := A.findSome? (fun x => B.findSome? (bcom x))
def fdif (fs : List Ft) (r : Bool) (gs : List Ft) (c : Bool) : Option Pk := match fparts fs r, fparts gs c with
  | some x, some y => match ftouch (psel x true) (psel y false) with
    | some p => some p
    | none => ftouch (psel x false) (psel y true)
  | _, _ => none
def fdifP (fs : List Ft) (r : Bool) (gs : List Ft) (c : Bool) : Pk := (fdif fs r gs c).getD pk0
def fsame (fs : List Ft) (r : Bool) (gs : List Ft) (c : Bool) : Int := match fparts fs r, fparts gs c with
  | some _, some _ => if (fdif fs r gs c).isSome then 0 else 1
  | _, _ => -1
def BV2 (A : List Bx) : Prop := ∀ z ∈ A, bvalid z = true
/-- What the first list drops and the second one accepts. -/
def bopen (A B : List Bx) : List Bx := A.flatMap (fun a => (B.map (bmeet a)).filter (fun m => !bempty m))
def nopenO (fs : List Ft) (r : Bool) (gs : List Ft) (c : Bool) : Option (List Bx) := match fparts fs r, fparts gs c with
  | some x, some y => if rvalid (bopen (psel x false) (psel y true)) then some (bopen (psel x false) (psel y true)) else none
  | _, _ => none
def nopen (fs : List Ft) (r : Bool) (gs : List Ft) (c : Bool) : List Bx := (nopenO fs r gs c).getD []
end Go.Proofs.YtfcbbahlhjdefaaGreatDoor
