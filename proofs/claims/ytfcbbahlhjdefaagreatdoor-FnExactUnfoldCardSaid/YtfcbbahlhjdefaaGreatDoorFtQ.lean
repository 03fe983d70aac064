/- Rules in a list of the call's own under way. -/
import Derived.Test.YtfcbbahlhjdefaaGreatDoorRgCL
import Derived.Test.YtfcbbahlhjdefaaGreatDoorRsC
import Derived.Test.YtfcbbahlhjdefaaGreatDoorFnX
import Derived.Test.YtfcbbahlhjdefaaGreatDoorPaI
/- Blocks of one cell: a box by itself. -/
namespace Go.Proofs.YtfcbbahlhjdefaaGreatDoor
open Go.RowKit
/-- A block of one cell that holds nothing. -/
def One (w : World) (q : Nat) : Prop := w.cell? ⟨q, 0, none⟩ = some (.slice none 0 0) ∧ ∀ j, w.cell? ⟨q, j + 1, none⟩ = none
theorem One.below {w w' : World} {q : Nat} (h : One w q) (hq : q < w.heap.size) (hb : Below w.heap.size w w') : One w' q :=
  ⟨(hb.cell (p := ⟨q, 0, none⟩) hq).trans h.1, fun j => (hb.cell (p := ⟨q, j + 1, none⟩) hq).trans (h.2 j)⟩
theorem One.new (w : World) (ty : TypeId) : One (w.alloc (.cells #[.slice none 0 0] ty)) w.heap.size := ⟨by simp, fun j => by simp⟩
theorem OwnSl.setOne {α : Type} {base e sz : Nat} {enc : α → List Value} {w : World} {v : Value} {xs : List α} (h : OwnSl base e sz enc w v xs) {q : Nat} (s : Value) (hx : v.ownBlock = some q → xs.flatMap enc = []) : OwnSl base e sz enc (w.setCell ⟨q, 0, none⟩ s) v xs := by
  by_cases he : v.ownBlock = some q
  · have h0 := hx he
    rcases OwnSl.form h with ⟨rfl, rfl⟩ | ⟨g, cap, rfl, _⟩
    · cases he
    · have hg : g = q := by simpa [Value.ownBlock] using he
      subst hg
      have h1 := (World.ownsRow.stored h 0 s).1
      unfold OwnSl
      rw [h0] at h1 ⊢
      simpa using h1
  · exact OwnSl.keepB h (fun g g1 _ _ => Below.heap_setCell _ _ _ _ (fun e => he (by rw [g1, e])))
theorem PSp.setOne {w : World} {l h : Nat} {v : Value} {xs : List Sp} (hp : PSp w l h v xs) {q : Nat} (hq : One w q) (s : Value) : PSp (w.setCell ⟨q, 0, none⟩ s) l h v xs := by
  refine ⟨OwnSl.setOne hp.1 s (fun e => ?_), hp.2.1, hp.2.2⟩
  cases xs with
  | nil => rfl
  | cons x xs =>
    rcases OwnSl.form hp.1 with ⟨_, h0⟩ | ⟨g, cap, hv, _⟩
    · cases h0
    · subst hv
      have hg : g = q := by simpa [Value.ownBlock] using e
      subst hg
      have := OwnSl.cell (sz := 2) (enc := Sp.enc) (fun _ => rfl) hp.1 (k := 0) (y := x) rfl 0 _ rfl
      simp only [Nat.zero_mul, Nat.add_zero] at this
      rw [hq.1] at this
      cases this
theorem GRw.setOne {w : World} {lo hi : Nat} {v : Value} {b : Bx} (h : GRw w lo hi v b) {q : Nat} (hq : One w q) (s : Value) (hl : b = [] ∨ 2 ≤ b.length) : GRw (w.setCell ⟨q, 0, none⟩ s) lo hi v b := by
  obtain ⟨vs, h1, h2, h3, h4⟩ := h
  have hlen := h4.len
  refine ⟨vs, OwnSl.setOne h1 s (fun e => ?_), h2, h3, h4.imp (PSp.kind.leO w _) (fun l m x y _ _ g3 => ⟨PSp.setOne g3.1 hq s, g3.2⟩)⟩
  rcases hl with rfl | hl
  · rw [List.eq_nil_of_length_eq_zero hlen]; rfl
  · exfalso
    rcases OwnSl.form h1 with ⟨_, h0⟩ | ⟨g, cap, hv, _⟩
    · rw [h0] at hlen; simp at hlen; omega
    · subst hv
      have hg : g = q := by simpa [Value.ownBlock] using e
      subst hg
      obtain ⟨y, hy⟩ : ∃ y, vs[1]? = some y := ⟨_, List.getElem?_eq_getElem (by omega)⟩
      have := OwnSl.cell (sz := 1) (enc := enc1) (fun _ => rfl) h1 (k := 1) (y := y) hy 0 _ rfl
      simp only [Nat.mul_one, Nat.add_zero] at this
      rw [hq.2 0] at this
      cases this
theorem Rws.setOne {w : World} {lo : Nat} {v : Value} {b : Bx} (h : Rws lo w v b) {q : Nat} (hq : One w q) (s : Value) (hl : b = [] ∨ 2 ≤ b.length) : Rws lo (w.setCell ⟨q, 0, none⟩ s) v b := by
  obtain ⟨vs, ⟨a, cap, rfl, h1, h2, hx⟩, h3⟩ := h
  have hlen := h3.1
  refine ⟨vs, ⟨a, cap, rfl, h1, h2, fun k x hk => ?_⟩, h3.mono (fun _ _ g => Sps.ints g (by simp) (fun p n hp => ?_))⟩
  · obtain ⟨bb, o, ha, g1, g2, g3⟩ := hx k x hk
    refine ⟨bb, o, ha, g1, by simpa using g2, fun j u hj => ?_⟩
    have hne : bb ≠ q := fun e => by
      subst e
      have hk0 := (List.getElem?_eq_some_iff.1 hk).1
      rcases hl with rfl | hl
      · simp at hlen; simp [hlen] at hk
      · obtain ⟨y, hy⟩ : ∃ y, vs[1]? = some y := ⟨_, List.getElem?_eq_getElem (by omega)⟩
        obtain ⟨b2, o2, e2, _, _, g4⟩ := hx 1 y hy
        rw [ha] at e2
        obtain ⟨rfl, rfl, _⟩ := Addr.mk.inj (Option.some.inj e2)
        have := g4 0 _ rfl
        rw [show o + 1 * 1 + 0 = o + 1 from rfl, hq.2 o] at this
        cases this
    rw [World.cell?_setCell_other _ _ _ _ (fun e => hne (by rw [← (Addr.mk.inj e).1]))]
    exact g3 j u hj
  · have hne : p ≠ ⟨q, 0, none⟩ := fun e => by rw [e, hq.1] at hp; cases hp
    exact (World.cell?_setCell_other _ _ _ _ (Ne.symm hne)).trans hp
/-- A new block for a box. -/
def BP (W w : World) (v : Value) : Prop := ∃ q, v = .pointer (some ⟨q, 0, none⟩) ∧ W.heap.size ≤ q ∧ q < w.heap.size ∧ (∀ j, w.frozen? ⟨q, j, none⟩ = false) ∧ One w q
theorem bst_bp (W : World) : BStb (BP W) := fun _ _ _ hb ⟨q, h0, h1, h2, h3, h4⟩ =>
  ⟨q, h0, h1, Nat.lt_of_lt_of_le h2 hb.size, fun j => (hb.frozen (p := ⟨q, j, none⟩) h2).trans (h3 j), h4.below h2 hb⟩
theorem BP.new {W : World} (w : World) (h : W.heap.size ≤ w.heap.size) : BP W (w.alloc (.cells #[.slice none 0 0] 41)) (.pointer (some ⟨w.heap.size, 0, none⟩)) :=
  ⟨_, rfl, h, by simp, fun j => frz_new w _ _ j, One.new w _⟩
/-- The block behind the store: a box that is read, or one of the call's own. -/
def BQ (c : Bx) (W w : World) (v : Value) : Prop := ∃ q a n p, v = .pointer (some ⟨q, 0, none⟩) ∧ W.heap.size ≤ q ∧ q < w.heap.size ∧ w.cell? ⟨q, 0, none⟩ = some (.slice a n p) ∧ w.frozen? ⟨q, 0, none⟩ = false ∧ Rws 0 w (.slice a n p) c ∧ Below W.heap.size W w
def BG (c : Bx) (W w : World) (v : Value) : Prop := ∃ q a n p hi, v = .pointer (some ⟨q, 0, none⟩) ∧ W.heap.size ≤ q ∧ q < w.heap.size ∧ w.cell? ⟨q, 0, none⟩ = some (.slice a n p) ∧ w.frozen? ⟨q, 0, none⟩ = false ∧ GRw w W.heap.size hi (.slice a n p) c ∧ hi ≤ w.heap.size ∧ Below W.heap.size W w
theorem BQ.mk1 {c : Bx} {W w : World} {q : Nat} {a : Option Addr} {n p : Nat} (hC : Below W.heap.size W w) (h1 : W.heap.size ≤ q) (h2 : q < w.heap.size) (h3 : ∀ j, w.frozen? ⟨q, j, none⟩ = false) (h4 : One w q) (hl : c = [] ∨ 2 ≤ c.length) (hz : Rws 0 w (.slice a n p) c) :
    BQ c W (w.setCell ⟨q, 0, none⟩ (.slice a n p)) (.pointer (some ⟨q, 0, none⟩)) :=
  ⟨q, a, n, p, rfl, h1, by simpa using h2, World.cell?_setCell_same' _ _ _ (by rw [h4.1]; rfl), by rw [World.frozen?_setCell]; exact h3 0, hz.setOne h4 _ hl, hC.setCell h1 _⟩
theorem BG.mk1 {c : Bx} {W w : World} {q hi : Nat} {a : Option Addr} {n p : Nat} (hC : Below W.heap.size W w) (h1 : W.heap.size ≤ q) (h2 : q < w.heap.size) (h3 : ∀ j, w.frozen? ⟨q, j, none⟩ = false) (h4 : One w q) (hl : c = [] ∨ 2 ≤ c.length) (hz : GRw w W.heap.size hi (.slice a n p) c) (hh : hi ≤ w.heap.size) :
    BG c W (w.setCell ⟨q, 0, none⟩ (.slice a n p)) (.pointer (some ⟨q, 0, none⟩)) :=
  ⟨q, a, n, p, hi, rfl, h1, by simpa using h2, World.cell?_setCell_same' _ _ _ (by rw [h4.1]; rfl), by rw [World.frozen?_setCell]; exact h3 0, hz.setOne h4 _ hl, by simpa using hh, hC.setCell h1 _⟩
theorem RwV.setOne {P : Nat → Prop} {w : World} {v : Value} {b : Bx} (h : RwV P w v b) {q : Nat} (hq : One w q) (s : Value) (hl : b = [] ∨ 2 ≤ b.length) : RwV P (w.setCell ⟨q, 0, none⟩ s) v b := by
  obtain ⟨vs, ⟨⟨a, cap, rfl, h1, h2, hx⟩, hpp⟩, h3⟩ := h
  have hlen := h3.1
  refine ⟨vs, ⟨⟨a, cap, rfl, h1, h2, fun k x hk => ?_⟩, hpp⟩, h3.mono (fun _ _ g => ⟨Sps.ints g.1 (by simp) (fun p n hp => ?_), g.2⟩)⟩
  · obtain ⟨bb, o, ha, g1, g2, g3⟩ := hx k x hk
    refine ⟨bb, o, ha, g1, by simpa using g2, fun j u hj => ?_⟩
    have hne : bb ≠ q := fun e => by
      subst e
      have hk0 := (List.getElem?_eq_some_iff.1 hk).1
      rcases hl with rfl | hl
      · simp at hlen; simp [hlen] at hk
      · obtain ⟨y, hy⟩ : ∃ y, vs[1]? = some y := ⟨_, List.getElem?_eq_getElem (by omega)⟩
        obtain ⟨b2, o2, e2, _, _, g4⟩ := hx 1 y hy
        rw [ha] at e2
        obtain ⟨rfl, rfl, _⟩ := Addr.mk.inj (Option.some.inj e2)
        have := g4 0 _ rfl
        rw [show o + 1 * 1 + 0 = o + 1 from rfl, hq.2 o] at this
        cases this
    rw [World.cell?_setCell_other _ _ _ _ (fun e => hne (by rw [← (Addr.mk.inj e).1]))]
    exact g3 j u hj
  · have hne : p ≠ ⟨q, 0, none⟩ := fun e => by rw [e, hq.1] at hp; cases hp
    exact (World.cell?_setCell_other _ _ _ _ (Ne.symm hne)).trans hp
def BQV (P : Nat → Prop) (c : Bx) (W w : World) (v : Value) : Prop := ∃ q a n p, v = .pointer (some ⟨q, 0, none⟩) ∧ W.heap.size ≤ q ∧ q < w.heap.size ∧ w.cell? ⟨q, 0, none⟩ = some (.slice a n p) ∧ w.frozen? ⟨q, 0, none⟩ = false ∧ RwV P w (.slice a n p) c ∧ Below W.heap.size W w
theorem BQV.mk1 {P : Nat → Prop} {c : Bx} {W w : World} {q : Nat} {a : Option Addr} {n p : Nat} (hC : Below W.heap.size W w) (h1 : W.heap.size ≤ q) (h2 : q < w.heap.size) (h3 : ∀ j, w.frozen? ⟨q, j, none⟩ = false) (h4 : One w q) (hl : c = [] ∨ 2 ≤ c.length) (hz : RwV P w (.slice a n p) c) :
    BQV P c W (w.setCell ⟨q, 0, none⟩ (.slice a n p)) (.pointer (some ⟨q, 0, none⟩)) :=
  ⟨q, a, n, p, rfl, h1, by simpa using h2, World.cell?_setCell_same' _ _ _ (by rw [h4.1]; rfl), by rw [World.frozen?_setCell]; exact h3 0, hz.setOne h4 _ hl, hC.setCell h1 _⟩
end Go.Proofs.YtfcbbahlhjdefaaGreatDoor
namespace Go.Proofs.YtfcbbahlhjdefaaGreatDoor
open Go.RowKit
/-- Rules in a list of the call's own under way; their boxes lie in no block of X. -/
def FtX (X : Nat → Prop) (lo : Nat) (w : World) (v : Value) (fs : List Ft) : Prop :=
  ∃ rs, OwnSl lo 44 2 RF.enc w v rs ∧ All2 (fun (r : RF) (f : Ft) => RwV (fun k => some k = v.ownBlock ∨ X k) w r.s f.box ∧ r.acc = f.acc) rs fs
theorem FtX.fts {X : Nat → Prop} {lo : Nat} {w : World} {v : Value} {fs : List Ft} (h : FtX X lo w v fs) : Fts 0 w v fs := by
  obtain ⟨rs, h1, h2⟩ := h
  exact ⟨rs, SlFr.mono (OwnSl.fr (sz := 2) (enc := RF.enc) (fun _ => rfl) h1) (Nat.zero_le _), h2.mono (fun _ _ g => ⟨g.1.rws, g.2⟩)⟩
theorem FtX.below {X : Nat → Prop} {lo : Nat} {w w' : World} {v : Value} {fs : List Ft} (h : FtX X lo w v fs) (hb : Below w.heap.size w w') : FtX X lo w' v fs := by
  obtain ⟨rs, h1, h2⟩ := h
  exact ⟨rs, OwnSl.kept h1 hb, h2.mono (fun _ _ g => ⟨g.1.below hb, g.2⟩)⟩
theorem FtX.lt {X : Nat → Prop} {lo : Nat} {w : World} {v : Value} {fs : List Ft} (h : FtX X lo w v fs) : ∀ z, v.ownBlock = some z → lo ≤ z ∧ z < w.heap.size := by
  obtain ⟨rs, h1, _⟩ := h
  exact fun z hz => World.ownsRow.lt h1 z hz
theorem FtX.form {X : Nat → Prop} {lo : Nat} {w : World} {v : Value} {fs : List Ft} (h : FtX X lo w v fs) : ∃ a c, v = .slice a fs.length c := by
  obtain ⟨a, c, h, -, -⟩ := h.fts.form
  exact ⟨a, c, h⟩
theorem ft_append {X : Nat → Prop} {lo : Nat} {w : World} {v vx : Value} {fs gs : List Ft} {ws : List RF} (ty : TypeId) (ho : FtX X lo w v fs) (hs : SlAt 2 RF.enc w vx ws) (hg : All2 (fun (r : RF) (f : Ft) => RwV (fun k => some k = v.ownBlock ∨ X k) w r.s f.box ∧ r.acc = f.acc) ws gs) (hb : fs.length + gs.length ≤ 1000000) (hlo : lo ≤ w.heap.size) :
    ∃ v' w', (Builtin.append_ #[27, 27] ty #[v, vx]).run Tryz.prog w = .ok v' w' ∧ FtX X lo w' v' (fs ++ gs) ∧ w.grownBy w' v.ownBlock ∧ ∀ z, v'.ownBlock = some z → v.ownBlock = some z ∨ z = w.heap.size := by
  obtain ⟨i0, hi, hy0, hy1, hy2⟩ := info_parts infoFt
  obtain ⟨rs, g1, g2⟩ := ho
  have e1 := g2.1
  have e2 := hg.1
  have hone : ∀ u ∈ ws.flatMap RF.enc, u.oneCell' = true := fun u hu => by
    obtain ⟨r, hr, hu2⟩ := List.mem_flatMap.1 hu
    obtain ⟨k, hk⟩ := List.getElem?_of_mem hr
    obtain ⟨f, hf⟩ : ∃ f, gs[k]? = some f := ⟨_, List.getElem?_eq_getElem (by rw [← e2]; exact (List.getElem?_eq_some_iff.1 hk).1)⟩
    obtain ⟨a, c, he, -, -⟩ := (hg.2 k r f hk hf).1.rws.form
    simp only [RF.enc, List.mem_cons, List.not_mem_nil, or_false] at hu2
    rcases hu2 with rfl | rfl
    · rw [he]; rfl
    · rfl
  obtain ⟨v', w', hrun, hown, hgr, hat⟩ := own_append_all (sz := 2) (enc := RF.enc) (by omega) (fun _ => rfl) (P := Tryz.prog) 27 ty 44 i0 _ 32 Tryz.underlying27 hi hy0 hy1 hy2 rfl hone g1 hs (by omega) (by simp only [maxLen]; omega) hlo
  refine ⟨v', w', hrun, ⟨rs ++ ws, hown, ?_⟩, hgr, hat⟩
  have key : ∀ k, k < w.heap.size → ¬ (some k = v.ownBlock ∨ X k) → w'.heap[k]? = w.heap[k]? ∧ ¬ (some k = v'.ownBlock ∨ X k) := fun k k1 k2 => ⟨hgr.block k k1 (fun e => k2 (.inl e)), fun e => by
    rcases e with e | e
    · rcases hat k e.symm with h | h
      · exact k2 (.inl h.symm)
      · omega
    · exact k2 (.inr e)⟩
  have f1 := g2.mono (S := fun (r : RF) (f : Ft) => RwV (fun k => some k = v'.ownBlock ∨ X k) w' r.s f.box ∧ r.acc = f.acc) (fun _ _ g => ⟨g.1.keep hgr.size key, g.2⟩)
  have f2 := hg.mono (S := fun (r : RF) (f : Ft) => RwV (fun k => some k = v'.ownBlock ∨ X k) w' r.s f.box ∧ r.acc = f.acc) (fun _ _ g => ⟨g.1.keep hgr.size key, g.2⟩)
  refine ⟨by rw [List.length_append, List.length_append, f1.1, f2.1], fun k x y hx hy => ?_⟩
  by_cases hk : k < rs.length
  · rw [List.getElem?_append_left hk] at hx
    rw [List.getElem?_append_left (by rw [← f1.1]; exact hk)] at hy
    exact f1.2 k x y hx hy
  · rw [List.getElem?_append_right (by omega)] at hx
    rw [List.getElem?_append_right (by rw [← f1.1]; omega), ← f1.1] at hy
    exact f2.2 _ x y hx hy
theorem litRF_at (w : World) (s : Value) (c : Bool) (ty : TypeId) : SlAt 2 RF.enc (w.alloc (.cells #[s, .bool c] ty)) (.slice (some ⟨w.heap.size, 0, none⟩) 1 1) [⟨s, c⟩] := by
  refine ⟨_, 1, rfl, by simp, by simp [maxLen], fun k x hk => ?_⟩
  match k, hk with
  | 0, hk =>
    cases hk
    refine ⟨w.heap.size, 0, rfl, by simp, fun j u hj => ?_⟩
    have := cellsNew w (RF.enc ⟨s, c⟩) ty j u hj
    rwa [Addr.add_lit] at this
  | k + 1, hk => simp at hk
theorem litBx_at (w : World) (s : Value) (ty : TypeId) : SlAt 1 enc1 (w.alloc (.cells #[s] ty)) (.slice (some ⟨w.heap.size, 0, none⟩) 1 1) [s] := by
  refine ⟨_, 1, rfl, by simp, by simp [maxLen], fun k x hk => ?_⟩
  match k, hk with
  | 0, hk =>
    cases hk
    refine ⟨w.heap.size, 0, rfl, by simp, fun j u hj => ?_⟩
    have := cellsNew w (enc1 s) ty j u hj
    rwa [Addr.add_lit] at this
  | k + 1, hk => simp at hk
end Go.Proofs.YtfcbbahlhjdefaaGreatDoor
