/- Blocks of one cell: a box by itself. -/
import Derived.Test.YtajcogpfmpehkaaGreatDoorRgCL
import Derived.Test.YtajcogpfmpehkaaGreatDoorRsC
import Derived.Test.YtajcogpfmpehkaaGreatDoorFnX
namespace Go.Proofs.YtajcogpfmpehkaaGreatDoor
open Go.RowKit
/-- A block of one cell that holds nothing. -/
def One (w : World) (q : Nat) : Prop := w.cell? ⟨q, 0, none⟩ = some (.slice none 0 0) ∧ ∀ j, w.cell? ⟨q, j + 1, none⟩ = none
theorem One.below {w w' : World} {q : Nat} (h : One w q) (hq : q < w.heap.size) (hb : Below w.heap.size w w') : One w' q :=
  ⟨(hb.cell (p := ⟨q, 0, none⟩) hq).trans h.1, fun j => (hb.cell (p := ⟨q, j + 1, none⟩) hq).trans (h.2 j)⟩
theorem One.new (w : World) (ty : TypeId) : One (w.alloc (.cells #[.slice none 0 0] ty)) w.heap.size := ⟨by simp, fun j => by simp⟩
theorem OwnSl.setOne {α : Type} {base e sz : Nat} {enc : α → List Value} {w : World} {v : Value} {xs : List α} (h : OwnSl base e sz enc w v xs) {q : Nat} (s : Value) (hx : v.ownBlock = some q → xs.flatMap enc = []) : OwnSl base e sz enc (w.setCell ⟨q, 0, none⟩ s) v xs := by
  by_cases he : v.ownBlock = some q
  · have h0 := hx he
    rcases OwnSl.form h with ⟨rfl, rfl⟩ | ⟨g, cap, rfl, _⟩
    · cases he
    · have hg : g = q := by simpa [Value.ownBlock] using he
      subst hg
      have h1 := (World.ownsRow.stored h 0 s).1
      unfold OwnSl
      rw [h0] at h1 ⊢
      simpa using h1
  · exact OwnSl.keepB h (fun g g1 _ _ => Below.heap_setCell _ _ _ _ (fun e => he (by rw [g1, e])))
theorem PSp.setOne {w : World} {l h : Nat} {v : Value} {xs : List Sp} (hp : PSp w l h v xs) {q : Nat} (hq : One w q) (s : Value) : PSp (w.setCell ⟨q, 0, none⟩ s) l h v xs := by
  refine ⟨OwnSl.setOne hp.1 s (fun e => ?_), hp.2.1, hp.2.2⟩
  cases xs with
  | nil => rfl
  | cons x xs =>
    rcases OwnSl.form hp.1 with ⟨_, h0⟩ | ⟨g, cap, hv, _⟩
    · cases h0
    · subst hv
      have hg : g = q := by simpa [Value.ownBlock] using e
      subst hg
      have := OwnSl.cell (sz := 2) (enc := Sp.enc) (fun _ => rfl) hp.1 (k := 0) (y := x) rfl 0 _ rfl
      simp only [Nat.zero_mul, Nat.add_zero] at this
      rw [hq.1] at this
      cases this
theorem GRw.setOne {w : World} {lo hi : Nat} {v : Value} {b : Bx} (h : GRw w lo hi v b) {q : Nat} (hq : One w q) (s : Value) (hl : b = [] ∨ 2 ≤ b.length) : GRw (w.setCell ⟨q, 0, none⟩ s) lo hi v b := by
  obtain ⟨vs, h1, h2, h3, h4⟩ := h
  have hlen := h4.len
  refine ⟨vs, OwnSl.setOne h1 s (fun e => ?_), h2, h3, h4.imp (PSp.kind.leO w _) (fun l m x y _ _ g3 => ⟨PSp.setOne g3.1 hq s, g3.2⟩)⟩
  rcases hl with rfl | hl
  · rw [List.eq_nil_of_length_eq_zero hlen]; rfl
  · exfalso
    rcases OwnSl.form h1 with ⟨_, h0⟩ | ⟨g, cap, hv, _⟩
    · rw [h0] at hlen; simp at hlen; omega
    · subst hv
      have hg : g = q := by simpa [Value.ownBlock] using e
      subst hg
      obtain ⟨y, hy⟩ : ∃ y, vs[1]? = some y := ⟨_, List.getElem?_eq_getElem (by omega)⟩
      have := OwnSl.cell (sz := 1) (enc := enc1) (fun _ => rfl) h1 (k := 1) (y := y) hy 0 _ rfl
      simp only [Nat.mul_one, Nat.add_zero] at this
      rw [hq.2 0] at this
      cases this
theorem Rws.setOne {w : World} {lo : Nat} {v : Value} {b : Bx} (h : Rws lo w v b) {q : Nat} (hq : One w q) (s : Value) (hl : b = [] ∨ 2 ≤ b.length) : Rws lo (w.setCell ⟨q, 0, none⟩ s) v b := by
  obtain ⟨vs, ⟨a, cap, rfl, h1, h2, hx⟩, h3⟩ := h
  have hlen := h3.1
  refine ⟨vs, ⟨a, cap, rfl, h1, h2, fun k x hk => ?_⟩, h3.mono (fun _ _ g => Sps.ints g (by simp) (fun p n hp => ?_))⟩
  · obtain ⟨bb, o, ha, g1, g2, g3⟩ := hx k x hk
    refine ⟨bb, o, ha, g1, by simpa using g2, fun j u hj => ?_⟩
    have hne : bb ≠ q := fun e => by
      subst e
      have hk0 := (List.getElem?_eq_some_iff.1 hk).1
      rcases hl with rfl | hl
      · simp at hlen; simp [hlen] at hk
      · obtain ⟨y, hy⟩ : ∃ y, vs[1]? = some y := ⟨_, List.getElem?_eq_getElem (by omega)⟩
        obtain ⟨b2, o2, e2, _, _, g4⟩ := hx 1 y hy
        rw [ha] at e2
        obtain ⟨rfl, rfl, _⟩ := Addr.mk.inj (Option.some.inj e2)
        have := g4 0 _ rfl
        rw [show o + 1 * 1 + 0 = o + 1 from rfl, hq.2 o] at this
        cases this
    rw [World.cell?_setCell_other _ _ _ _ (fun e => hne (by rw [← (Addr.mk.inj e).1]))]
    exact g3 j u hj
  · have hne : p ≠ ⟨q, 0, none⟩ := fun e => by rw [e, hq.1] at hp; cases hp
    exact (World.cell?_setCell_other _ _ _ _ (Ne.symm hne)).trans hp
/-- A new block for a box. -/
def BP (W w : World) (v : Value) : Prop := ∃ q, v = .pointer (some ⟨q, 0, none⟩) ∧ W.heap.size ≤ q ∧ q < w.heap.size ∧ (∀ j, w.frozen? ⟨q, j, none⟩ = false) ∧ One w q
theorem bst_bp (W : World) : BStb (BP W) := fun _ _ _ hb ⟨q, h0, h1, h2, h3, h4⟩ =>
  ⟨q, h0, h1, Nat.lt_of_lt_of_le h2 hb.size, fun j => (hb.frozen (p := ⟨q, j, none⟩) h2).trans (h3 j), h4.below h2 hb⟩
theorem BP.new {W : World} (w : World) (h : W.heap.size ≤ w.heap.size) : BP W (w.alloc (.cells #[.slice none 0 0] 68)) (.pointer (some ⟨w.heap.size, 0, none⟩)) :=
  ⟨_, rfl, h, by simp, fun j => frz_new w _ _ j, One.new w _⟩
/-- The block behind the store: a box that is read, or one of the call's own. -/
def BQ (c : Bx) (W w : World) (v : Value) : Prop := ∃ q a n p, v = .pointer (some ⟨q, 0, none⟩) ∧ W.heap.size ≤ q ∧ q < w.heap.size ∧ w.cell? ⟨q, 0, none⟩ = some (.slice a n p) ∧ w.frozen? ⟨q, 0, none⟩ = false ∧ Rws 0 w (.slice a n p) c ∧ Below W.heap.size W w
def BG (c : Bx) (W w : World) (v : Value) : Prop := ∃ q a n p hi, v = .pointer (some ⟨q, 0, none⟩) ∧ W.heap.size ≤ q ∧ q < w.heap.size ∧ w.cell? ⟨q, 0, none⟩ = some (.slice a n p) ∧ w.frozen? ⟨q, 0, none⟩ = false ∧ GRw w W.heap.size hi (.slice a n p) c ∧ hi ≤ w.heap.size ∧ Below W.heap.size W w
theorem BQ.mk1 {c : Bx} {W w : World} {q : Nat} {a : Option Addr} {n p : Nat} (hC : Below W.heap.size W w) (h1 : W.heap.size ≤ q) (h2 : q < w.heap.size) (h3 : ∀ j, w.frozen? ⟨q, j, none⟩ = false) (h4 : One w q) (hl : c = [] ∨ 2 ≤ c.length) (hz : Rws 0 w (.slice a n p) c) :
    BQ c W (w.setCell ⟨q, 0, none⟩ (.slice a n p)) (.pointer (some ⟨q, 0, none⟩)) :=
  ⟨q, a, n, p, rfl, h1, by simpa using h2, World.cell?_setCell_same' _ _ _ (by rw [h4.1]; rfl), by rw [World.frozen?_setCell]; exact h3 0, hz.setOne h4 _ hl, hC.setCell h1 _⟩
theorem BG.mk1 {c : Bx} {W w : World} {q hi : Nat} {a : Option Addr} {n p : Nat} (hC : Below W.heap.size W w) (h1 : W.heap.size ≤ q) (h2 : q < w.heap.size) (h3 : ∀ j, w.frozen? ⟨q, j, none⟩ = false) (h4 : One w q) (hl : c = [] ∨ 2 ≤ c.length) (hz : GRw w W.heap.size hi (.slice a n p) c) (hh : hi ≤ w.heap.size) :
    BG c W (w.setCell ⟨q, 0, none⟩ (.slice a n p)) (.pointer (some ⟨q, 0, none⟩)) :=
  ⟨q, a, n, p, hi, rfl, h1, by simpa using h2, World.cell?_setCell_same' _ _ _ (by rw [h4.1]; rfl), by rw [World.frozen?_setCell]; exact h3 0, hz.setOne h4 _ hl, by simpa using hh, hC.setCell h1 _⟩
theorem RwV.setOne {P : Nat → Prop} {w : World} {v : Value} {b : Bx} (h : RwV P w v b) {q : Nat} (hq : One w q) (s : Value) (hl : b = [] ∨ 2 ≤ b.length) : RwV P (w.setCell ⟨q, 0, none⟩ s) v b := by
  obtain ⟨vs, ⟨⟨a, cap, rfl, h1, h2, hx⟩, hpp⟩, h3⟩ := h
  have hlen := h3.1
  refine ⟨vs, ⟨⟨a, cap, rfl, h1, h2, fun k x hk => ?_⟩, hpp⟩, h3.mono (fun _ _ g => ⟨Sps.ints g.1 (by simp) (fun p n hp => ?_), g.2⟩)⟩
  · obtain ⟨bb, o, ha, g1, g2, g3⟩ := hx k x hk
    refine ⟨bb, o, ha, g1, by simpa using g2, fun j u hj => ?_⟩
    have hne : bb ≠ q := fun e => by
      subst e
      have hk0 := (List.getElem?_eq_some_iff.1 hk).1
      rcases hl with rfl | hl
      · simp at hlen; simp [hlen] at hk
      · obtain ⟨y, hy⟩ : ∃ y, vs[1]? = some y := ⟨_, List.getElem?_eq_getElem (by omega)⟩
        obtain ⟨b2, o2, e2, _, _, g4⟩ := hx 1 y hy
        rw [ha] at e2
        obtain ⟨rfl, rfl, _⟩ := Addr.mk.inj (Option.some.inj e2)
        have := g4 0 _ rfl
        rw [show o + 1 * 1 + 0 = o + 1 from rfl, hq.2 o] at this
        cases this
    rw [World.cell?_setCell_other _ _ _ _ (fun e => hne (by rw [← (Addr.mk.inj e).1]))]
    exact g3 j u hj
  · have hne : p ≠ ⟨q, 0, none⟩ := fun e => by rw [e, hq.1] at hp; cases hp
    exact (World.cell?_setCell_other _ _ _ _ (Ne.symm hne)).trans hp
def BQV (P : Nat → Prop) (c : Bx) (W w : World) (v : Value) : Prop := ∃ q a n p, v = .pointer (some ⟨q, 0, none⟩) ∧ W.heap.size ≤ q ∧ q < w.heap.size ∧ w.cell? ⟨q, 0, none⟩ = some (.slice a n p) ∧ w.frozen? ⟨q, 0, none⟩ = false ∧ RwV P w (.slice a n p) c ∧ Below W.heap.size W w
theorem BQV.mk1 {P : Nat → Prop} {c : Bx} {W w : World} {q : Nat} {a : Option Addr} {n p : Nat} (hC : Below W.heap.size W w) (h1 : W.heap.size ≤ q) (h2 : q < w.heap.size) (h3 : ∀ j, w.frozen? ⟨q, j, none⟩ = false) (h4 : One w q) (hl : c = [] ∨ 2 ≤ c.length) (hz : RwV P w (.slice a n p) c) :
    BQV P c W (w.setCell ⟨q, 0, none⟩ (.slice a n p)) (.pointer (some ⟨q, 0, none⟩)) :=
  ⟨q, a, n, p, rfl, h1, by simpa using h2, World.cell?_setCell_same' _ _ _ (by rw [h4.1]; rfl), by rw [World.frozen?_setCell]; exact h3 0, hz.setOne h4 _ hl, hC.setCell h1 _⟩
end Go.Proofs.YtajcogpfmpehkaaGreatDoor
