/- Ties, boxes of rules, FlatBoxes; tails. -/
import Derived.Test.YtfcbbahlhjdefaaGreatDoorFnX
import Derived.Test.YtfcbbahlhjdefaaGreatDoorCuW
import Derived.Test.YtfcbbahlhjdefaaGreatDoorBsA
import Derived.Test.YtfcbbahlhjdefaaGreatDoorRgX
import Derived.Deep.DeepCutAuto
import Derived.Test.YtfcbbahlhjdefaaGreatDoorFmK
import Derived.Laws.StructEq
import Derived.Test.YtfcbbahlhjdefaaGreatDoorFmZ
import Derived.Test.YtfcbbahlhjdefaaGreatDoorProg
import Derived.Test.YtfcbbahlhjdefaaGreatDoorDt
import Derived.Deep.AppendLies
import Derived.Deep.RegionLaw
/- Trimmed, swapped lists: plain laws and both walks of TrimTail and SwapFlats. -/
namespace Go.Proofs.YtfcbbahlhjdefaaGreatDoor
open Go.RowKit
/-- How many rules are left when those at the end with the word r are trimmed. -/
def tcut (fs : List Ft) (r : Bool) : Nat → Nat
  | 0 => 0
  | n + 1 => match fs[n]? with
    | some f => if f.acc = r then tcut fs r n else n + 1
    | none => n + 1
def ttrim (fs : List Ft) (r : Bool) : List Ft := if fvalid fs then fs.take (tcut fs r fs.length) else []
theorem SlFr.take {α : Type} {lo sz : Nat} {enc : α → List Value} {w : World} {a : Option Addr} {n cap k : Nat} {xs : List α} (h : SlFr lo sz enc w (.slice a n cap) xs) (hk : k ≤ n) : SlFr lo sz enc w (.slice a k cap) (xs.take k) := by
  obtain ⟨a', cap', he, h1, h2, hx⟩ := h
  obtain ⟨rfl, rfl, rfl⟩ := Value.slice.inj he
  refine ⟨a, cap, by rw [List.length_take, Nat.min_eq_left hk], by rw [List.length_take]; omega, h2, fun j x hj => hx j x (get_take hj).2⟩
theorem Fts.take {lo : Nat} {w : World} {a : Option Addr} {n cap k : Nat} {fs : List Ft} (h : Fts lo w (.slice a n cap) fs) (hk : k ≤ n) : Fts lo w (.slice a k cap) (fs.take k) :=
  let ⟨rs, h1, h2⟩ := h
  ⟨rs.take k, h1.take hk, h2.take k⟩
theorem Ifs.take {lo : Nat} {w : World} {a : Option Addr} {n cap k : Nat} {fs : List Ft} (h : Ifs lo w (.slice a n cap) fs) (hk : k ≤ n) : Ifs lo w (.slice a k cap) (fs.take k) :=
  let ⟨rs, h1, h2⟩ := h
  ⟨rs.take k, h1.take hk, h2.take k⟩
/-- Two neighbours exchanged. -/
def swapAt {α : Type} (l : List α) (k : Nat) : List α := match l[k]?, l[k + 1]? with
  | some x, some y => (l.set k y).set (k + 1) x
  | _, _ => l
theorem All2.swap {α β : Type} {R : α → β → Prop} {la : List α} {lb : List β} (h : All2 R la lb) (k : Nat) : All2 R (swapAt la k) (swapAt lb k) := by
  unfold swapAt
  have hl := h.1
  cases hx : la[k]? with
  | none =>
    have : lb[k]? = none := by rw [List.getElem?_eq_none_iff] at hx ⊢; omega
    rw [this]
    exact h
  | some x =>
    obtain ⟨u, hu⟩ : ∃ u, lb[k]? = some u := ⟨_, List.getElem?_eq_getElem (by have := (List.getElem?_eq_some_iff.1 hx).1; omega)⟩
    cases hy : la[k + 1]? with
    | none =>
      have : lb[k + 1]? = none := by rw [List.getElem?_eq_none_iff] at hy ⊢; omega
      rw [hu, this]
      exact h
    | some y =>
      obtain ⟨v, hv⟩ : ∃ v, lb[k + 1]? = some v := ⟨_, List.getElem?_eq_getElem (by have := (List.getElem?_eq_some_iff.1 hy).1; omega)⟩
      rw [hu, hv]
      exact (h.set (h.2 _ _ _ hy hv) k).set (h.2 _ _ _ hx hu) (k + 1)
/-- What SwapFlats returns. -/
def swfl (fs : List Ft) (n : Int) : List Ft := if fvalid fs then (if cansw fs n then swapAt fs n.toNat else fs) else []
theorem newFlats_e {lo : Nat} {fs : List Ft} {v : Value} {w0 w : World} (hs : Ifs lo w v fs) (hv : fvalid fs = true) (hb : Below w0.heap.size w0 w) :
    Calls Tryz.prog 29 #[v] w fun e w' => ∃ v', e = .returned v' ∧ GFs w' w0.heap.size w'.heap.size v' fs ∧ Below w0.heap.size w0 w' := by
  refine (newFlats_any fs v w hs (fun k f hf j xs hx => by have := bvalid_lens (fvalid_at hv hf) j xs hx; omega) (by have := fvalid_60 hv; omega)).mono ?_
  rintro e w' ⟨v', rfl, h1, h2⟩
  exact ⟨v', rfl, OwnG.low h1 hb.size, hb.trans (h2.mono hb.size)⟩
end Go.Proofs.YtfcbbahlhjdefaaGreatDoor
/- Drawn packets. -/
namespace Go.Proofs.YtfcbbahlhjdefaaGreatDoor
open Go.RowKit
abbrev Pk.v (p : Pk) : Value := .agg #[.int .i64 p.from_, .int .i64 p.to_, .int .i64 p.port, .int .i64 p.proto]
/-- Four numbers in a block of the call's own. -/
structure Box4 (w : World) (b : Nat) (v0 v1 v2 v3 : Int) : Prop where
  lt : b < w.heap.size
  c0 : w.cell? ⟨b, 0, none⟩ = some (.int .i64 v0)
  c1 : w.cell? ⟨b, 1, none⟩ = some (.int .i64 v1)
  c2 : w.cell? ⟨b, 2, none⟩ = some (.int .i64 v2)
  c3 : w.cell? ⟨b, 3, none⟩ = some (.int .i64 v3)
  frz : ∀ j, w.frozen? ⟨b, j, none⟩ = false
theorem Box4.mv {R B : Nat} {w w' : World} {b : Nat} {v0 v1 v2 v3 : Int} (h : Box4 w b v0 v1 v2 v3) (hm : Mv R B w w') (hb : b < B) (hne : b ≠ R) : Box4 w' b v0 v1 v2 v3 :=
  ⟨Nat.lt_of_lt_of_le h.lt hm.size, (mvC hm b hb hne 0).trans h.c0, (mvC hm b hb hne 1).trans h.c1, (mvC hm b hb hne 2).trans h.c2, (mvC hm b hb hne 3).trans h.c3, fun j => (mvF hm b hb hne j).trans (h.frz j)⟩
theorem Box4.new (w : World) (v0 v1 v2 v3 : Int) (ty : TypeId) : Box4 (w.alloc (.cells #[.int .i64 v0, .int .i64 v1, .int .i64 v2, .int .i64 v3] ty)) w.heap.size v0 v1 v2 v3 :=
  ⟨by simp, by simp, by simp, by simp, by simp, frz_new w _ _⟩
theorem Box4.old {w : World} {b : Nat} {v0 v1 v2 v3 : Int} (h : Box4 w b v0 v1 v2 v3) (o : Obj) : Box4 (w.alloc o) b v0 v1 v2 v3 :=
  h.mv (R := w.heap.size) (B := w.heap.size) (Mv.of_below ((Below.refl _ _).alloc (Nat.le_refl _) _)) h.lt (Nat.ne_of_lt h.lt)
theorem Box4.some {w : World} {b : Nat} {v0 v1 v2 v3 : Int} (h : Box4 w b v0 v1 v2 v3) : ∀ j, j < 4 → (w.cell? ⟨b, j, none⟩).isSome = true := by
  intro j hj
  rcases (by omega : j = 0 ∨ j = 1 ∨ j = 2 ∨ j = 3) with rfl | rfl | rfl | rfl
  · rw [h.c0]; rfl
  · rw [h.c1]; rfl
  · rw [h.c2]; rfl
  · rw [h.c3]; rfl
/-- The drawn packet in the making: the answer's block is the first new one, the variable's block is b. -/
structure PkAll (R : Nat) (bs : List Int) (w : World) (b : Nat) (wx : World) (q : Nat) (v0 v1 v2 v3 : Int) : Prop where
  rd : RdAt R bs wx q
  B : Box4 wx b v0 v1 v2 v3
  A : Box4 wx w.heap.size 0 0 0 0
  mv : Mv R w.heap.size w wx
  hR : R < w.heap.size
  hb : w.heap.size < b
theorem Box4.set {w : World} {b : Nat} {v0 v1 v2 v3 : Int} (h : Box4 w b v0 v1 v2 v3) (v : Int) :
    Box4 (w.setCell ⟨b, 0, none⟩ (.int .i64 v)) b v v1 v2 v3 ∧ Box4 (w.setCell ⟨b, 1, none⟩ (.int .i64 v)) b v0 v v2 v3 ∧
    Box4 (w.setCell ⟨b, 2, none⟩ (.int .i64 v)) b v0 v1 v v3 ∧ Box4 (w.setCell ⟨b, 3, none⟩ (.int .i64 v)) b v0 v1 v2 v := by
  obtain ⟨l, h0, h1, h2, h3, hf⟩ := h
  have s0 := World.cell?_setCell_same' w ⟨b, 0, none⟩ (.int .i64 v) (by rw [h0]; rfl)
  have s1 := World.cell?_setCell_same' w ⟨b, 1, none⟩ (.int .i64 v) (by rw [h1]; rfl)
  have s2 := World.cell?_setCell_same' w ⟨b, 2, none⟩ (.int .i64 v) (by rw [h2]; rfl)
  have s3 := World.cell?_setCell_same' w ⟨b, 3, none⟩ (.int .i64 v) (by rw [h3]; rfl)
  have o : ∀ i j : Nat, i ≠ j → (w.setCell ⟨b, i, none⟩ (.int .i64 v)).cell? ⟨b, j, none⟩ = w.cell? ⟨b, j, none⟩ := fun i j hij => World.cell?_setCell_other _ _ _ _ (by intro e; exact hij (Addr.mk.inj e).2.1)
  have z : ∀ i : Nat, (w.setCell ⟨b, i, none⟩ (.int .i64 v)).heap.size = w.heap.size := fun i => by simp [World.setCell]
  refine ⟨⟨by rw [z]; exact l, s0, (o 0 1 (by decide)).trans h1, (o 0 2 (by decide)).trans h2, (o 0 3 (by decide)).trans h3, fun j => by simpa using hf j⟩,
    ⟨by rw [z]; exact l, (o 1 0 (by decide)).trans h0, s1, (o 1 2 (by decide)).trans h2, (o 1 3 (by decide)).trans h3, fun j => by simpa using hf j⟩,
    ⟨by rw [z]; exact l, (o 2 0 (by decide)).trans h0, (o 2 1 (by decide)).trans h1, s2, (o 2 3 (by decide)).trans h3, fun j => by simpa using hf j⟩,
    ⟨by rw [z]; exact l, (o 3 0 (by decide)).trans h0, (o 3 1 (by decide)).trans h1, (o 3 2 (by decide)).trans h2, s3, fun j => by simpa using hf j⟩⟩
theorem PkAll.st {R : Nat} {bs : List Int} {w : World} {b : Nat} {wx : World} {q : Nat} {v0 v1 v2 v3 u0 u1 u2 u3 : Int} (S : PkAll R bs w b wx q v0 v1 v2 v3) {j : Nat} {v : Value} (hB : Box4 (wx.setCell ⟨b, j, none⟩ v) b u0 u1 u2 u3) : PkAll R bs w b (wx.setCell ⟨b, j, none⟩ v) q u0 u1 u2 u3 :=
  have hA : Below b wx (wx.setCell ⟨b, j, none⟩ v) := (Below.refl b wx).setCell (p := ⟨b, j, none⟩) (Nat.le_refl b) v
  have hlt := S.hb
  have hR := S.hR
  have hq := Mv.of_below (R := R) hA
  ⟨S.rd.up (hA.mono (by omega)), hB, S.A.mv hq hlt (by omega), S.mv.trans (hq.mono (by omega)), S.hR, S.hb⟩
def PkSt (R : Nat) (bs : List Int) (p : Nat) (w : World) (b : Nat) (wx : World) : Prop :=
  ∃ q v0 v1 v2 v3, PkAll R bs w b wx q v0 v1 v2 v3 ∧ q ≤ p
def DrawnPk (R : Nat) (bs : List Int) (p : Nat) (w : World) (e : Ending) (w' : World) : Prop :=
  ∃ (x : Pk) (q : Nat), e = .returned (Pk.v x) ∧ RdAt R bs w' q ∧ q ≤ p + 20 ∧ Mv R w.heap.size w w'
end Go.Proofs.YtfcbbahlhjdefaaGreatDoor
/- BoxHas, equal lists, what a list decides, the probe; JudgeFlat. -/
namespace Go.Proofs.YtfcbbahlhjdefaaGreatDoor
open Go.RowKit
/-- A drawn rule's box: n sets. -/
def FtOk (n : Nat → Prop) (fs : List Ft) : Prop := ∀ (k : Nat) f, fs[k]? = some f → n f.box.length ∧ ∀ (j : Nat) xs, f.box[j]? = some xs → xs.length ≤ 40
theorem FtOk.snoc {n : Nat → Prop} {fs : List Ft} (h : FtOk n fs) {f : Ft} (h1 : n f.box.length) (h2 : ∀ (j : Nat) xs, f.box[j]? = some xs → xs.length ≤ 40) : FtOk n (fs ++ [f]) := by
  intro k y hk
  by_cases hl : k < fs.length
  · rw [List.getElem?_append_left hl] at hk; exact h k y hk
  · have := (List.getElem?_eq_some_iff.1 hk).1
    simp at this
    obtain rfl : k = fs.length := by omega
    simp at hk
    subst hk; exact ⟨h1, h2⟩
/-- What the first box with the packet decides, or r. -/
def jw : List Ft → Bool → Pk → Bool
  | [], r, _ => r
  | f :: fs, r, p => if bhas f.box p then f.acc else jw fs r p
def jfl (fs : List Ft) (r : Bool) (p : Pk) : Bool := fvalid fs && p.ok && jw fs r p
theorem Box4.put {w : World} {b : Nat} {v0 v1 v2 v3 : Int} (h : Box4 w b v0 v1 v2 v3) {j : Nat} (hj : j < 4) (v : Int) : ∃ u0 u1 u2 u3, Box4 (w.setCell ⟨b, j, none⟩ (.int .i64 v)) b u0 u1 u2 u3 := by
  rcases (by omega : j = 0 ∨ j = 1 ∨ j = 2 ∨ j = 3) with rfl | rfl | rfl | rfl
  · exact ⟨_, _, _, _, (h.set v).1⟩
  · exact ⟨_, _, _, _, (h.set v).2.1⟩
  · exact ⟨_, _, _, _, (h.set v).2.2.1⟩
  · exact ⟨_, _, _, _, (h.set v).2.2.2⟩
theorem Box4.far {w : World} {b : Nat} {v0 v1 v2 v3 : Int} (h : Box4 w b v0 v1 v2 v3) {p : Addr} (hp : p.block ≠ b) (u : Value) : Box4 (w.setCell p u) b v0 v1 v2 v3 :=
  h.mv (R := p.block) (B := w.heap.size) ⟨rfl, rfl, rfl, by simp, fun k _ hne => Below.heap_setCell _ _ _ _ hne⟩ h.lt (fun e => hp e.symm)
/-- The numbers of the probe in the making: some four. -/
def PbSt (w wr : World) : Prop := (∃ v0 v1 v2 v3, Box4 wr (w.heap.size + 1 + 1) v0 v1 v2 v3) ∧ Box4 wr w.heap.size 0 0 0 0 ∧ Below w.heap.size w wr
theorem PbSt.put {w wr : World} (h : PbSt w wr) {j : Nat} (hj : j < 4) (v : Int) : PbSt w (wr.setCell ⟨w.heap.size + 1 + 1, j, none⟩ (.int .i64 v)) :=
  let ⟨⟨v0, v1, v2, v3, h1⟩, h2, h3⟩ := h
  ⟨h1.put hj v, h2.far (by simp only; omega) _, h3.setCell (by simp only; omega) _⟩
/-- A fresh packet's block. -/
def FPk (base : Nat) : World → Value → Prop := fun w v => ∃ B, v = .pointer (some ⟨B, 0, none⟩) ∧ base ≤ B ∧ Box4 w B 0 0 0 0
def FPr : World → Value → Prop := fun _ v => ∃ a b c d : Int, v = .agg #[.int .i64 a, .int .i64 b, .int .i64 c, .int .i64 d]
/-- Where the drawn packet lies. -/
def GPk (i : Nat) : Nat → World → Value → Prop := fun j w v => j = i → ∃ (B : Nat) (a b c d : Int), v = .pointer (some ⟨B, 0, none⟩) ∧ Box4 w B a b c d
theorem Box4.all {w : World} {B : Nat} {u0 u1 u2 u3 : Int} (h : Box4 w B u0 u1 u2 u3) (a b c d : Int) : Box4 ((((w.setCell ⟨B, 0, none⟩ (.int .i64 a)).setCell ⟨B, 1, none⟩ (.int .i64 b)).setCell ⟨B, 2, none⟩ (.int .i64 c)).setCell ⟨B, 3, none⟩ (.int .i64 d)) B a b c d :=
  ((((h.set a).1.set b).2.1.set c).2.2.1.set d).2.2.2
end Go.Proofs.YtfcbbahlhjdefaaGreatDoor
namespace Go.Proofs.YtfcbbahlhjdefaaGreatDoor
open Go.RowKit
/-- Whether rules a and b are tied, as the program asks: the later one first. -/
def tieM (fs : List Ft) (a b : Nat) : Bool := if a = b then false else tiedAt fs (max a b) (min a b)
/-- What is known behind i rows and j columns. -/
def kn (i j r c : Nat) : Bool := decide ((r < i ∧ c < i) ∨ (r = i ∧ c < j) ∨ (c = i ∧ r < j))
def tieRow (fs : List Ft) (n i j r : Nat) : List Bool := (List.range n).map fun c => kn i j r c && tieM fs r c
def tieAll (fs : List Ft) (n i j : Nat) : List (List Bool) := (List.range n).map fun r => if r ≤ i then tieRow fs n i j r else []
/-- The whole graph. -/
def ties (fs : List Ft) : List (List Bool) := (List.range fs.length).map fun r => (List.range fs.length).map fun c => tieM fs r c
/-- Rules in another order, by their numbers. -/
def arr (fs : List Ft) (o : List Nat) : List Ft := o.filterMap fun i => fs[i]?
/-- A rule moved up. -/
def lift1 : Nat → List Ft → List Ft × Nat
  | 0, fs => (fs, 0)
  | n + 1, fs => if cansw fs n then lift1 n (swapAt fs n) else (fs, n + 1)
def lift (fs : List Ft) (n : Int) : List Ft × Int := if fvalid fs && inB n 0 ((fs.length : Int) - 1) then ((lift1 n.toNat fs).1, ((lift1 n.toNat fs).2 : Int)) else ([], -1)
structure R4 where
  v0 : Value
  v1 : Value
  v2 : Value
  v3 : Value
abbrev R4.enc (r : R4) : List Value := [r.v0, r.v1, r.v2, r.v3]
def R4.ok (lo : Nat) (w : World) (r : R4) (b : Bx) : Prop := All2 (Sps lo w) [r.v0, r.v1, r.v2, r.v3] b
def Iss (lo : Nat) (w : World) (v : Value) (bs : List Bx) : Prop := ∃ rs, SlFr lo 4 R4.enc w v rs ∧ All2 (R4.ok lo w) rs bs
theorem Iss.below {lo : Nat} {w w' : World} {v : Value} {bs : List Bx} (h : Iss lo w v bs) (hb : Below w.heap.size w w') : Iss lo w' v bs :=
  let ⟨rs, h1, h2⟩ := h
  ⟨rs, h1.below hb, h2.mono (fun _ _ h => (h.mono (fun _ _ h => h.below hb) : All2 _ _ _))⟩
theorem Iss.form {lo : Nat} {w : World} {v : Value} {bs : List Bx} (h : Iss lo w v bs) : ∃ a cap, v = .slice a bs.length cap ∧ bs.length ≤ cap ∧ cap ≤ maxLen := by
  obtain ⟨rs, ⟨a, cap, rfl, h1, h2, _⟩, h3⟩ := h
  exact ⟨a, cap, by rw [h3.1], by rw [← h3.1]; exact h1, h2⟩
theorem Iss.at {lo : Nat} {w : World} {a : Option Addr} {n cap : Nat} {bs : List Bx} (h : Iss lo w (.slice a n cap) bs) {k : Nat} {f : Bx} (hk : bs[k]? = some f) :
    ∃ b o v0 v1 v2 v3, a = some ⟨b, o, none⟩ ∧ b < w.heap.size ∧ w.cell? ⟨b, o + k * 4, none⟩ = some v0 ∧ w.cell? ⟨b, o + k * 4 + 1, none⟩ = some v1 ∧ w.cell? ⟨b, o + k * 4 + 2, none⟩ = some v2 ∧ w.cell? ⟨b, o + k * 4 + 3, none⟩ = some v3 ∧ All2 (Sps lo w) [v0, v1, v2, v3] f := by
  obtain ⟨rs, ⟨a', cap', he, _, _, hx⟩, h2⟩ := h
  obtain ⟨rfl, _, _⟩ := Value.slice.inj he
  obtain ⟨r, hr, hs⟩ := h2.left hk
  obtain ⟨b, o, ha, _, hb, hc⟩ := hx k r hr
  exact ⟨b, o, r.v0, r.v1, r.v2, r.v3, ha, hb, by simpa using hc 0 _ rfl, hc 1 _ rfl, hc 2 _ rfl, hc 3 _ rfl, hs⟩
theorem infoSd : (Tryz.prog.info? 83).map (fun i => (i.zero, i.size, i.bytes)) = some (some (.agg #[.slice none 0 0, .slice none 0 0, .slice none 0 0, .slice none 0 0]), 4, 96) := by kernel_rfl
theorem infoBx : (Tryz.prog.info? 41).map (fun i => (i.zero, i.size, i.bytes)) = some (some (.agg #[.slice none 0 0]), 1, 24) := by kernel_rfl
def fboxes (fs : List Ft) : List Bx := fs.map Ft.box
/-- Rules inside the program whose sets are as Q says. -/
def IfsQ (Q : Value → List Sp → Prop) (lo : Nat) (w : World) (v : Value) (fs : List Ft) : Prop := ∃ rs, SlFr lo 5 R5.enc w v rs ∧ All2 (fun (r : R5) (f : Ft) => All2 Q [r.v0, r.v1, r.v2, r.v3] f.box ∧ r.acc = f.acc) rs fs
theorem Ifs.q {lo : Nat} {w : World} {v : Value} {fs : List Ft} (h : Ifs lo w v fs) : IfsQ (Sps lo w) lo w v fs := h
theorem IfsQ.form {Q : Value → List Sp → Prop} {lo : Nat} {w : World} {v : Value} {fs : List Ft} (h : IfsQ Q lo w v fs) : ∃ a cap, v = .slice a fs.length cap ∧ fs.length ≤ cap ∧ cap ≤ maxLen := by
  obtain ⟨vs, ⟨a, cap, rfl, h1, h2, _⟩, h3⟩ := h
  exact ⟨a, cap, by rw [h3.1], by rw [← h3.1]; exact h1, h2⟩
theorem IfsQ.at {Q : Value → List Sp → Prop} {lo : Nat} {w : World} {a : Option Addr} {n cap : Nat} {fs : List Ft} (h : IfsQ Q lo w (.slice a n cap) fs) {k : Nat} {f : Ft} (hk : fs[k]? = some f) :
    ∃ b o v0 v1 v2 v3, a = some ⟨b, o, none⟩ ∧ b < w.heap.size ∧ w.cell? ⟨b, o + k * 5, none⟩ = some v0 ∧ w.cell? ⟨b, o + k * 5 + 1, none⟩ = some v1 ∧ w.cell? ⟨b, o + k * 5 + 2, none⟩ = some v2 ∧ w.cell? ⟨b, o + k * 5 + 3, none⟩ = some v3 ∧
      w.cell? ⟨b, o + k * 5 + 4, none⟩ = some (.bool f.acc) ∧ All2 Q [v0, v1, v2, v3] f.box := by
  obtain ⟨rs, ⟨a', cap', he, _, _, hx⟩, h2⟩ := h
  obtain ⟨rfl, _, _⟩ := Value.slice.inj he
  obtain ⟨r, hr, hs, hacc⟩ := h2.left hk
  obtain ⟨b, o, ha, _, hb, hc⟩ := hx k r hr
  exact ⟨b, o, r.v0, r.v1, r.v2, r.v3, ha, hb, by simpa using hc 0 _ rfl, hc 1 _ rfl, hc 2 _ rfl, hc 3 _ rfl, by rw [← hacc]; exact hc 4 _ rfl, hs⟩
def QSl (Q : Value → List Sp → Prop) : Prop := ∀ v xs, Q v xs → ∃ a n c, v = .slice a n c
theorem QSl.sps (lo : Nat) (w : World) : QSl (Sps lo w) := fun v xs h => by
  obtain ⟨a, c, rfl, -, -⟩ := h.form
  exact ⟨_, _, _, rfl⟩
/-- Boxes in a list of the call's own. -/
def BsO (lo : Nat) (w : World) (v : Value) (bs : List Bx) : Prop :=
  ∃ vs, OwnSl lo 41 1 enc1 w v vs ∧ All2 (fun r b => Rws lo (hole w v.ownBlock) r b) vs bs
theorem BsO.bxs {lo : Nat} {w : World} {v : Value} {bs : List Bx} (h : BsO lo w v bs) : Bxs lo w v bs :=
  let ⟨vs, h1, h2⟩ := h
  ⟨vs, OwnSl.fr (sz := 1) (enc := enc1) (fun _ => rfl) h1, h2.mono (fun _ _ h => h.sub (Sb.out _ _ _))⟩
theorem BsO.push {lo : Nat} {w w2 : World} {v v' : Value} {bs : List Bx} {vs : List Value} {r : Value} {b : Bx} {H : Nat} (h1 : All2 (fun r b => Rws lo (hole w v.ownBlock) r b) vs bs)
    (hr : Rws lo (hole w v.ownBlock) r b) (hg : w.heap.size ≤ w2.heap.size ∧ ∀ k, k < w.heap.size → some k ≠ v.ownBlock → w2.heap[k]? = w.heap[k]?)
    (hown : OwnSl lo 41 1 enc1 w2 v' (vs ++ [r])) (hat : ∀ z, v'.ownBlock = some z → v.ownBlock = some z ∨ z = H) (hH : w.heap.size ≤ H) : BsO lo w2 v' (bs ++ [b]) := by
  have hsb : Sb lo (hole w v.ownBlock) (hole w2 v'.ownBlock) := Sb.hole hg.1 (fun k _ k2 k3 => ⟨fun e => by
    rcases hat k e.symm with h | h
    · exact k3 h.symm
    · omega, hg.2 k k2 k3⟩)
  exact ⟨vs ++ [r], hown, (h1.mono (fun _ _ h => h.sub hsb)).snoc (hr.sub hsb)⟩
def fbx (fs : List Ft) : List Bx := if fvalid fs then fboxes fs else []
end Go.Proofs.YtfcbbahlhjdefaaGreatDoor
