/- Lists of lists of the call's own, with gaps between their blocks. -/
import Derived.Test.YtnnmkdaioajkkaaDoorFmC
namespace Go.Proofs.YtnnmkdaioajkkaaDoor
open Go.RowKit
/-- The elements own one interval of blocks behind another, with gaps. -/
def OwnD {α β : Type} (P : Nat → Nat → α → β → Prop) : Nat → Nat → List α → List β → Prop
  | lo, hi, [], [] => lo ≤ hi
  | lo, hi, a :: la, b :: lb => ∃ l m, lo ≤ l ∧ P l m a b ∧ OwnD P m hi la lb
  | _, _, _, _ => False
section
variable {α β : Type} {P P' : Nat → Nat → α → β → Prop}
theorem OwnD.of (hP : ∀ l h x y, P l h x y → l ≤ h) : ∀ {lo hi : Nat} {la : List α} {lb : List β}, OwnC P lo hi la lb → OwnD P lo hi la lb
  | _, _, [], [], h => h
  | _, _, [], _ :: _, h => h.elim
  | _, _, _ :: _, [], h => h.elim
  | _, _, _ :: _, _ :: _, ⟨mid, h1, h2⟩ => ⟨_, mid, Nat.le_refl _, h1, OwnD.of hP h2⟩
theorem OwnD.le (hP : ∀ l h x y, P l h x y → l ≤ h) : ∀ {lo hi : Nat} {la : List α} {lb : List β}, OwnD P lo hi la lb → lo ≤ hi
  | _, _, [], [], h => h
  | _, _, [], _ :: _, h => h.elim
  | _, _, _ :: _, [], h => h.elim
  | _, _, _ :: _, _ :: _, ⟨_, _, h0, h1, h2⟩ => Nat.le_trans h0 (Nat.le_trans (hP _ _ _ _ h1) (OwnD.le hP h2))
theorem OwnD.len : ∀ {lo hi : Nat} {la : List α} {lb : List β}, OwnD P lo hi la lb → la.length = lb.length
  | _, _, [], [], _ => rfl
  | _, _, [], _ :: _, h => h.elim
  | _, _, _ :: _, [], h => h.elim
  | _, _, _ :: _, _ :: _, ⟨_, _, _, _, h2⟩ => by simp [OwnD.len h2]
theorem OwnD.snoc {hi' l : Nat} {a : α} {b : β} : ∀ {lo hi : Nat} {la : List α} {lb : List β}, OwnD P lo hi la lb → hi ≤ l → P l hi' a b → OwnD P lo hi' (la ++ [a]) (lb ++ [b])
  | _, _, [], [], h, hl, hp => ⟨l, hi', Nat.le_trans h hl, hp, Nat.le_refl _⟩
  | _, _, [], _ :: _, h, _, _ => h.elim
  | _, _, _ :: _, [], h, _, _ => h.elim
  | _, _, _ :: _, _ :: _, ⟨l', m, h0, h1, h2⟩, hl, hp => ⟨l', m, h0, h1, OwnD.snoc h2 hl hp⟩
theorem OwnD.imp (hP : ∀ l h x y, P l h x y → l ≤ h) : ∀ {lo hi : Nat} {la : List α} {lb : List β}, OwnD P lo hi la lb → (∀ l h x y, lo ≤ l → h ≤ hi → P l h x y → P' l h x y) → OwnD P' lo hi la lb
  | _, _, [], [], h, _ => h
  | _, _, [], _ :: _, h, _ => h.elim
  | _, _, _ :: _, [], h, _ => h.elim
  | _, _, _ :: _, _ :: _, ⟨l', m, h0, h1, h2⟩, hp => ⟨l', m, h0, hp _ _ _ _ h0 (OwnD.le hP h2) h1, OwnD.imp hP h2 (fun l h x y g1 g2 g3 => hp l h x y (Nat.le_trans h0 (Nat.le_trans (hP _ _ _ _ h1) g1)) g2 g3)⟩
theorem OwnD.hi {hi' : Nat} : ∀ {lo hi : Nat} {la : List α} {lb : List β}, OwnD P lo hi la lb → hi ≤ hi' → OwnD P lo hi' la lb
  | _, _, [], [], h, hh => Nat.le_trans h hh
  | _, _, [], _ :: _, h, _ => h.elim
  | _, _, _ :: _, [], h, _ => h.elim
  | _, _, _ :: _, _ :: _, ⟨l', m, h0, h1, h2⟩, hh => ⟨l', m, h0, h1, OwnD.hi h2 hh⟩
theorem OwnD.lo {lo' : Nat} : ∀ {lo hi : Nat} {la : List α} {lb : List β}, OwnD P lo hi la lb → lo' ≤ lo → OwnD P lo' hi la lb
  | _, _, [], [], h, hh => Nat.le_trans hh h
  | _, _, [], _ :: _, h, _ => h.elim
  | _, _, _ :: _, [], h, _ => h.elim
  | _, _, _ :: _, _ :: _, ⟨l', m, h0, h1, h2⟩, hh => ⟨l', m, Nat.le_trans hh h0, h1, h2⟩
/-- One element is turned, the others stay. -/
theorem OwnD.step (hP : ∀ l h x y, P l h x y → l ≤ h) {a : α} {b : β} : ∀ {lo hi : Nat} {la : List α} {lb : List β} (i : Nat), OwnD P lo hi la lb → la[i]? = some a → lb[i]? = some b →
    ∃ l m, lo ≤ l ∧ l ≤ m ∧ m ≤ hi ∧ P l m a b ∧ ∀ (P' : Nat → Nat → α → β → Prop) (a' : α) (b' : β), P' l m a' b' → (∀ l' h' x y, (h' ≤ l ∨ m ≤ l') → P l' h' x y → P' l' h' x y) → OwnD P' lo hi (la.set i a') (lb.set i b')
  | _, _, [], _, i, _, ha, _ => by simp at ha
  | _, _, _ :: _, [], i, h, _, _ => h.elim
  | lo, hi, x :: la, y :: lb, 0, ⟨l, mid, h0, h1, h2⟩, ha, hb => by
    simp at ha hb
    subst ha hb
    refine ⟨l, mid, h0, hP _ _ _ _ h1, OwnD.le hP h2, h1, fun P' a' b' h3 h4 => ⟨l, mid, h0, h3, ?_⟩⟩
    exact OwnD.imp hP h2 (fun l h x y g1 _ g3 => h4 l h x y (.inr g1) g3)
  | lo, hi, x :: la, y :: lb, i + 1, ⟨l0, mid, h0, h1, h2⟩, ha, hb => by
    obtain ⟨l, m, k1, k2, k3, k4, k5⟩ := OwnD.step hP i h2 (by simpa using ha) (by simpa using hb)
    refine ⟨l, m, Nat.le_trans h0 (Nat.le_trans (hP _ _ _ _ h1) k1), k2, k3, k4, fun P' a' b' h3 h4 => ⟨l0, mid, h0, h4 _ _ _ _ (.inl k1) h1, k5 P' a' b' h3 h4⟩⟩
theorem OwnD.all2 {R : α → β → Prop} (hP : ∀ l h x y, P l h x y → l ≤ h) {lo hi : Nat} {la : List α} {lb : List β} (h : OwnD P lo hi la lb) (hR : ∀ l m x y, lo ≤ l → m ≤ hi → P l m x y → R x y) : All2 R la lb := by
  refine ⟨h.len, fun k x y hx hy => ?_⟩
  obtain ⟨l, m, h1, _, h3, h4, _⟩ := h.step hP k hx hy
  exact hR l m x y h1 h3 h4
end
/-- The outer block lies outside an element's interval. -/
def Off (g : Option Nat) (l h : Nat) : Prop := ∀ x, g = some x → x < l ∨ h ≤ x
/-- A list of the call's own whose elements own blocks too. -/
def OwnG {α β : Type} (e sz : Nat) (enc : α → List Value) (P : World → Nat → Nat → α → β → Prop) (w : World) (lo hi : Nat) (v : Value) (ys : List β) : Prop :=
  ∃ vs : List α, OwnSl lo e sz enc w v vs ∧ (∀ x, v.ownBlock = some x → x < hi) ∧ lo ≤ hi ∧ OwnD (fun l h x y => P w l h x y ∧ Off v.ownBlock l h) lo hi vs ys
/-- What is asked of a kind of elements. -/
structure Kind {α β : Type} (P : World → Nat → Nat → α → β → Prop) : Prop where
  le : ∀ w l h x y, P w l h x y → l ≤ h
  keep : ∀ w w' l h x y, P w l h x y → Kpi l h w w' → P w' l h x y
section
variable {α β : Type} {e sz : Nat} {enc : α → List Value} {P : World → Nat → Nat → α → β → Prop}
theorem Kind.leO (hk : Kind P) (w : World) (g : Option Nat) : ∀ l h x y, (P w l h x y ∧ Off g l h) → l ≤ h := fun l h x y hp => hk.le w l h x y hp.1
theorem OwnG.kind (hk : Kind P) : Kind (OwnG e sz enc P) where
  le := fun _w _l _h _x _y ⟨_, _, _, h3, _⟩ => h3
  keep := fun w _w' _l _h _x _y ⟨vs, h1, h2, h3, h4⟩ hw => ⟨vs, h1.keepB (fun g g1 g2 g3 => hw.block g g2 (h2 g g1) g3), h2, h3, h4.imp (hk.leO w _) (fun _l' _h' _a _b g1 g2 g3 => ⟨hk.keep _ _ _ _ _ _ g3.1 (hw.sub g1 g2), g3.2⟩)⟩
theorem OwnG.keep (hk : Kind P) {w w' : World} {lo hi : Nat} {v : Value} {ys : List β} (h : OwnG e sz enc P w lo hi v ys) (hw : Kpi lo hi w w') : OwnG e sz enc P w' lo hi v ys := (OwnG.kind hk).keep _ _ _ _ _ _ h hw
theorem OwnG.of (hk : Kind P) {w : World} {lo mid hi : Nat} {v : Value} {vs : List α} {ys : List β} (h1 : OwnI e sz enc w lo mid v vs) (h2 : OwnC (P w) mid hi vs ys) : OwnG e sz enc P w lo hi v ys := by
  have h3 := OwnD.of (hk.le w) h2
  have h4 := h3.le (hk.le w)
  refine ⟨vs, h1.1, fun x hx => Nat.lt_of_lt_of_le (h1.2.1 x hx) h4, Nat.le_trans h1.2.2 h4, (h3.imp (hk.le w) (fun l h x y g1 _ g3 => ⟨g3, fun z hz => .inl (Nat.lt_of_lt_of_le (h1.2.1 z hz) g1)⟩)).lo h1.2.2⟩
theorem OwnG.nil {w : World} {lo hi : Nat} {v : Value} (h : OwnSl lo e sz enc w v ([] : List α)) (h1 : ∀ x, v.ownBlock = some x → x < hi) (h2 : lo ≤ hi) : OwnG e sz enc P w lo hi v ([] : List β) := ⟨[], h, h1, h2, h2⟩
/-- The elements behind an append. -/
theorem OwnD.push (hk : Kind P) {w w1 w2 : World} {lo H : Nat} {v v' : Value} {vs : List α} {ys : List β} {x : α} {y : β}
    (hC : OwnD (fun l h x y => P w l h x y ∧ Off v.ownBlock l h) lo w.heap.size vs ys) (hv : ∀ z, v.ownBlock = some z → z < w.heap.size)
    (hb : Below w.heap.size w w1) (hp : P w1 w.heap.size w1.heap.size x y) (hg : ∀ k, k < w1.heap.size → some k ≠ v.ownBlock → w2.heap[k]? = w1.heap[k]?) (hz : w1.heap.size ≤ w2.heap.size)
    (hv' : ∀ z, v'.ownBlock = some z → (v.ownBlock = some z ∨ z = H) ∧ z < w2.heap.size) (hH : w1.heap.size ≤ H) :
    OwnD (fun l h x y => P w2 l h x y ∧ Off v'.ownBlock l h) lo w2.heap.size (vs ++ [x]) (ys ++ [y]) := by
  have hz1 := hb.size
  have hC2 : OwnD (fun l h x y => P w2 l h x y ∧ Off v'.ownBlock l h) lo w.heap.size vs ys := hC.imp (hk.leO w _) (fun l h a b g1 g2 g3 => by
    refine ⟨hk.keep _ _ _ _ _ _ g3.1 ⟨by omega, fun k k1 k2 k3 => ?_⟩, fun z hz => ?_⟩
    · rw [hg k (by omega) (fun e => by have := g3.2 k e.symm; omega)]
      exact hb.block k k3
    · rcases (hv' z hz).1 with e | e
      · exact g3.2 z e
      · right; omega)
  have hp2 : P w2 w.heap.size w1.heap.size x y := hk.keep _ _ _ _ _ _ hp ⟨hz, fun k k1 k2 k3 => hg k k3 (fun e => by have := hv k e.symm; omega)⟩
  have := OwnD.snoc hC2 (Nat.le_refl _) (⟨hp2, fun z hz => by
    rcases (hv' z hz).1 with e | e
    · left; exact hv z e
    · right; omega⟩ : P w2 w.heap.size w1.heap.size x y ∧ Off v'.ownBlock w.heap.size w1.heap.size)
  exact this.hi hz
end
theorem PSp.kind : Kind PSp := ⟨fun _ => PSp.le, fun _ _ _ _ _ _ h hw => OwnI.keep h hw⟩
/-- A box of the call's own. -/
def GRw : World → Nat → Nat → Value → Bx → Prop := OwnG 86 1 enc1 PSp
theorem GRw.kind : Kind GRw := OwnG.kind PSp.kind
theorem OwnRw.g {w : World} {lo hi : Nat} {v : Value} {b : Bx} (h : OwnRw w lo hi v b) : GRw w lo hi v b := let ⟨_, _, h1, h2⟩ := h; OwnG.of PSp.kind h1 h2
theorem GRw.rws {w : World} {lo hi : Nat} {v : Value} {b : Bx} (h : GRw w lo hi v b) : Rws lo w v b := by
  obtain ⟨vs, h1, h2, h3, h4⟩ := h
  exact ⟨vs, OwnSl.fr (sz := 1) (enc := enc1) (fun _ => rfl) h1, h4.all2 (PSp.kind.leO w _) (fun l m x y g1 _ g3 => Sps.mono (OwnSl.fr (sz := 2) (enc := Sp.enc) (fun _ => rfl) g3.1.1) g1)⟩
def PFg (w : World) (lo hi : Nat) (r : RF) (f : Ft) : Prop := GRw w lo hi r.s f.box ∧ r.acc = f.acc
theorem PFg.kind : Kind PFg := ⟨fun _w _l _h _x _y hp => GRw.kind.le _ _ _ _ _ hp.1, fun _ _ _ _ _ _ h hw => ⟨GRw.kind.keep _ _ _ _ _ _ h.1 hw, h.2⟩⟩
/-- Rules of the call's own. -/
def GFs : World → Nat → Nat → Value → List Ft → Prop := OwnG 74 2 RF.enc PFg
theorem GFs.kind : Kind GFs := OwnG.kind PFg.kind
theorem OwnFs.g {w : World} {lo hi : Nat} {v : Value} {fs : List Ft} (h : OwnFs w lo hi v fs) : GFs w lo hi v fs := by
  obtain ⟨rs, mid, h1, h2⟩ := h
  exact OwnG.of PFg.kind h1 (h2.imp PFt.le (fun l h x y _ _ g3 => ⟨g3.1.g, g3.2⟩))
theorem GFs.fts {w : World} {lo hi : Nat} {v : Value} {fs : List Ft} (h : GFs w lo hi v fs) : Fts lo w v fs := by
  obtain ⟨rs, h1, h2, h3, h4⟩ := h
  exact ⟨rs, OwnSl.fr (sz := 2) (enc := RF.enc) (fun _ => rfl) h1, h4.all2 (PFg.kind.leO w _) (fun l m x y g1 _ g3 => ⟨Rws.mono g3.1.1.rws g1, g3.1.2⟩)⟩
theorem GRw.form {w : World} {lo hi : Nat} {v : Value} {b : Bx} (h : GRw w lo hi v b) : ∃ a cap, v = .slice a b.length cap ∧ b.length ≤ cap ∧ cap ≤ maxLen := Rws.form h.rws
theorem GFs.form {w : World} {lo hi : Nat} {v : Value} {fs : List Ft} (h : GFs w lo hi v fs) : ∃ a cap, v = .slice a fs.length cap ∧ fs.length ≤ cap ∧ cap ≤ maxLen := Fts.form h.fts
/-- Only blocks between lo and hi are turned. -/
structure Chg (lo hi : Nat) (w w' : World) : Prop where
  below : Below lo w w'
  high : ∀ k, hi ≤ k → k < w.heap.size → w'.heap[k]? = w.heap[k]?
theorem Chg.refl (lo hi : Nat) (w : World) : Chg lo hi w w := ⟨Below.refl _ _, fun _ _ _ => rfl⟩
theorem Chg.trans {lo hi : Nat} {a b c : World} (h : Chg lo hi a b) (k : Chg lo hi b c) : Chg lo hi a c := ⟨h.below.trans k.below, fun j h1 h2 => (k.high j h1 (Nat.lt_of_lt_of_le h2 h.below.size)).trans (h.high j h1 h2)⟩
theorem Chg.wide {lo hi lo' hi' : Nat} {w w' : World} (h : Chg lo hi w w') (h1 : lo' ≤ lo) (h2 : hi ≤ hi') : Chg lo' hi' w w' := ⟨h.below.mono h1, fun k g1 g2 => h.high k (Nat.le_trans h2 g1) g2⟩
/-- An interval beside stays. -/
theorem Chg.kpi {lo hi l h : Nat} {w w' : World} (hc : Chg lo hi w w') (hd : h ≤ lo ∨ hi ≤ l) : Kpi l h w w' := ⟨hc.below.size, fun k k1 k2 k3 => by
  rcases hd with hd | hd
  · exact hc.below.block k (by omega)
  · exact hc.high k (by omega) k3⟩
theorem Chg.of {w w' : World} (lo : Nat) (h : Below w.heap.size w w') (hl : lo ≤ w.heap.size) (hi : Nat) : Chg lo hi w w' := ⟨h.mono hl, fun k _ h2 => h.block k h2⟩
theorem Kpi.setCell {lo hi : Nat} (w : World) {p : Addr} {v : Value} (h : p.block < lo ∨ hi ≤ p.block) : Kpi lo hi w (w.setCell p v) := ⟨by simp, fun k h1 h2 _ => by
  rw [Below.heap_setCell]
  simp
  omega⟩
theorem OwnG.keepSet {α β : Type} {e sz : Nat} {enc : α → List Value} {P : World → Nat → Nat → α → β → Prop} (hk : Kind P) {w : World} {lo hi : Nat} {v u : Value} {p : Addr} {ys : List β} (h : OwnG e sz enc P w lo hi v ys) (hp : p.block < lo) : OwnG e sz enc P (w.setCell p u) lo hi v ys :=
  OwnG.keep hk h (Kpi.setCell w (.inl hp))
/-- A list of the call's own behind an append. -/
theorem OwnG.push {α β : Type} {e sz : Nat} {enc : α → List Value} {P : World → Nat → Nat → α → β → Prop} (hk : Kind P) {w w1 w2 : World} {lo H g cap : Nat} {v : Value} {ys : List β} {vs : List α} {x : α} {y : β} {n : Nat}
    (hD : OwnD (fun l h x y => P w l h x y ∧ Off v.ownBlock l h) lo w.heap.size vs ys) (hv : ∀ z, v.ownBlock = some z → z < w.heap.size) (hl : lo ≤ w.heap.size)
    (hb : Below w.heap.size w w1) (hp : P w1 w.heap.size w1.heap.size x y) (hg : w1.heap.size ≤ w2.heap.size ∧ ∀ k, k < w1.heap.size → some k ≠ v.ownBlock → w2.heap[k]? = w1.heap[k]?)
    (hown : OwnSl lo e sz enc w2 (.slice (some ⟨g, 0, none⟩) n cap) (vs ++ [x])) (hat : v.ownBlock = some g ∨ g = H) (hlt : g < w2.heap.size) (hH : w1.heap.size ≤ H) :
    OwnG e sz enc P w2 lo w2.heap.size (.slice (some ⟨g, 0, none⟩) n cap) (ys ++ [y]) := by
  have hz := hb.size
  have hg2 : ∀ z, (Value.slice (some ⟨g, 0, none⟩) n cap).ownBlock = some z → z = g := fun z hz => by cases hz; rfl
  refine ⟨vs ++ [x], hown, fun z hz => by rw [hg2 z hz]; exact hlt, by omega, ?_⟩
  exact OwnD.push hk hD hv hb hp hg.2 hg.1 (fun z hz => by rw [hg2 z hz]; exact ⟨hat, hlt⟩) hH
theorem PSp.of {w : World} {lo hi : Nat} {v : Value} {xs : List Sp} (h : OwnSp lo w v xs) (h1 : w.heap.size ≤ hi) (h2 : lo ≤ hi) : PSp w lo hi v xs := ⟨h, fun z hz => Nat.lt_of_lt_of_le (World.ownsRow.lt h z hz).2 h1, h2⟩
theorem grown_old {w1 w2 : World} {o : Obj} {r : Option Nat} (h : (w1.alloc o).grownBy w2 r) : w1.heap.size ≤ w2.heap.size ∧ ∀ k, k < w1.heap.size → some k ≠ r → w2.heap[k]? = w1.heap[k]? := by
  have hs : (w1.alloc o).heap.size = w1.heap.size + 1 := by simp
  refine ⟨by have := h.size; omega, fun k hk hne => (h.block k (by omega) hne).trans ?_⟩
  exact ((Below.refl w1.heap.size w1).alloc (Nat.le_refl _) o).block k hk
theorem OwnG.low {α β : Type} {e sz : Nat} {enc : α → List Value} {P : World → Nat → Nat → α → β → Prop} {w : World} {lo lo' hi : Nat} {v : Value} {ys : List β} (h : OwnG e sz enc P w lo hi v ys) (hl : lo' ≤ lo) : OwnG e sz enc P w lo' hi v ys :=
  let ⟨vs, h1, h2, h3, h4⟩ := h
  ⟨vs, OwnSl.mono h1 hl, h2, Nat.le_trans hl h3, h4.lo hl⟩
end Go.Proofs.YtnnmkdaioajkkaaDoor
