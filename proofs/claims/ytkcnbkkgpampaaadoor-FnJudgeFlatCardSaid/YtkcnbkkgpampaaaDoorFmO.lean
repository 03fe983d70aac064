/- Lists of lists of the call's own: every block in a place of its own. -/
import Derived.Test.YtkcnbkkgpampaaaDoorFmE
namespace Go.Proofs.YtkcnbkkgpampaaaDoor
open Go.RowKit
/-- The elements own one interval of blocks behind another. -/
def OwnC {α β : Type} (P : Nat → Nat → α → β → Prop) : Nat → Nat → List α → List β → Prop
  | lo, hi, [], [] => lo ≤ hi
  | lo, hi, a :: la, b :: lb => ∃ mid, P lo mid a b ∧ OwnC P mid hi la lb
  | _, _, _, _ => False
theorem OwnC.le {α β : Type} {P : Nat → Nat → α → β → Prop} (hP : ∀ l h x y, P l h x y → l ≤ h) : ∀ {lo hi : Nat} {la : List α} {lb : List β}, OwnC P lo hi la lb → lo ≤ hi
  | _, _, [], [], h => h
  | _, _, [], _ :: _, h => h.elim
  | _, _, _ :: _, [], h => h.elim
  | _, _, _ :: _, _ :: _, ⟨_, h1, h2⟩ => Nat.le_trans (hP _ _ _ _ h1) (OwnC.le hP h2)
theorem OwnC.len {α β : Type} {P : Nat → Nat → α → β → Prop} : ∀ {lo hi : Nat} {la : List α} {lb : List β}, OwnC P lo hi la lb → la.length = lb.length
  | _, _, [], [], _ => rfl
  | _, _, [], _ :: _, h => h.elim
  | _, _, _ :: _, [], h => h.elim
  | _, _, _ :: _, _ :: _, ⟨_, _, h2⟩ => by simp [OwnC.len h2]
theorem OwnC.snoc {α β : Type} {P : Nat → Nat → α → β → Prop} {hi' : Nat} {a : α} {b : β} : ∀ {lo hi : Nat} {la : List α} {lb : List β}, OwnC P lo hi la lb → (∀ l, l ≤ hi → P l hi' a b) → hi ≤ hi' → OwnC P lo hi' (la ++ [a]) (lb ++ [b])
  | _, _, [], [], h, hp, _ => ⟨hi', hp _ h, Nat.le_refl _⟩
  | _, _, [], _ :: _, h, _, _ => h.elim
  | _, _, _ :: _, [], h, _, _ => h.elim
  | _, _, _ :: _, _ :: _, ⟨mid, h1, h2⟩, hp, hh => ⟨mid, h1, OwnC.snoc h2 hp hh⟩
theorem OwnC.imp {α β : Type} {P P' : Nat → Nat → α → β → Prop} (hP : ∀ l h x y, P l h x y → l ≤ h) : ∀ {lo hi : Nat} {la : List α} {lb : List β}, OwnC P lo hi la lb → (∀ l h x y, lo ≤ l → h ≤ hi → P l h x y → P' l h x y) → OwnC P' lo hi la lb
  | _, _, [], [], h, _ => h
  | _, _, [], _ :: _, h, _ => h.elim
  | _, _, _ :: _, [], h, _ => h.elim
  | _, _, _ :: _, _ :: _, ⟨mid, h1, h2⟩, hp => ⟨mid, hp _ _ _ _ (Nat.le_refl _) (OwnC.le hP h2) h1, OwnC.imp hP h2 (fun l h x y g1 g2 g3 => hp l h x y (Nat.le_trans (hP _ _ _ _ h1) g1) g2 g3)⟩
theorem OwnC.hi {α β : Type} {P : Nat → Nat → α → β → Prop} {hi' : Nat} : ∀ {lo hi : Nat} {la : List α} {lb : List β}, OwnC P lo hi la lb → hi ≤ hi' → OwnC P lo hi' la lb
  | _, _, [], [], h, hh => Nat.le_trans h hh
  | _, _, [], _ :: _, h, _ => h.elim
  | _, _, _ :: _, [], h, _ => h.elim
  | _, _, _ :: _, _ :: _, ⟨mid, h1, h2⟩, hh => ⟨mid, h1, OwnC.hi h2 hh⟩
/-- One element is turned, the others stay. -/
theorem OwnC.step {α β : Type} {P : Nat → Nat → α → β → Prop} (hP : ∀ l h x y, P l h x y → l ≤ h) {a : α} {b : β} : ∀ {lo hi : Nat} {la : List α} {lb : List β} (i : Nat), OwnC P lo hi la lb → la[i]? = some a → lb[i]? = some b →
    ∃ l m, lo ≤ l ∧ l ≤ m ∧ m ≤ hi ∧ P l m a b ∧ ∀ (P' : Nat → Nat → α → β → Prop) (a' : α) (b' : β), P' l m a' b' → (∀ l' h' x y, (h' ≤ l ∨ m ≤ l') → P l' h' x y → P' l' h' x y) → OwnC P' lo hi (la.set i a') (lb.set i b')
  | _, _, [], _, i, _, ha, _ => by simp at ha
  | _, _, _ :: _, [], i, h, _, _ => h.elim
  | lo, hi, x :: la, y :: lb, 0, ⟨mid, h1, h2⟩, ha, hb => by
    simp at ha hb
    subst ha hb
    refine ⟨lo, mid, Nat.le_refl _, hP _ _ _ _ h1, OwnC.le hP h2, h1, fun P' a' b' h3 h4 => ⟨mid, h3, ?_⟩⟩
    exact OwnC.imp hP h2 (fun l h x y g1 _ g3 => h4 l h x y (.inr g1) g3)
  | lo, hi, x :: la, y :: lb, i + 1, ⟨mid, h1, h2⟩, ha, hb => by
    obtain ⟨l, m, k1, k2, k3, k4, k5⟩ := OwnC.step hP i h2 (by simpa using ha) (by simpa using hb)
    refine ⟨l, m, Nat.le_trans (hP _ _ _ _ h1) k1, k2, k3, k4, fun P' a' b' h3 h4 => ⟨mid, h4 _ _ _ _ (.inl k1) h1, k5 P' a' b' h3 h4⟩⟩
theorem OwnC.all2 {α β : Type} {P : Nat → Nat → α → β → Prop} {R : α → β → Prop} (hP : ∀ l h x y, P l h x y → l ≤ h) {lo hi : Nat} {la : List α} {lb : List β} (h : OwnC P lo hi la lb) (hR : ∀ l m x y, lo ≤ l → m ≤ hi → P l m x y → R x y) : All2 R la lb := by
  refine ⟨h.len, fun k x y hx hy => ?_⟩
  obtain ⟨l, m, h1, _, h3, h4, _⟩ := h.step hP k hx hy
  exact hR l m x y h1 h3 h4
/-- The blocks from lo up to hi stay. -/
structure Kpi (lo hi : Nat) (w w' : World) : Prop where
  size : w.heap.size ≤ w'.heap.size
  block : ∀ k, lo ≤ k → k < hi → k < w.heap.size → w'.heap[k]? = w.heap[k]?
theorem Kpi.of {lo hi : Nat} {w w' : World} (h : Below w.heap.size w w') : Kpi lo hi w w' := ⟨h.size, fun k _ _ hk => h.block k hk⟩
theorem Kpi.sub {lo hi lo' hi' : Nat} {w w' : World} (h : Kpi lo hi w w') (h1 : lo ≤ lo') (h2 : hi' ≤ hi) : Kpi lo' hi' w w' := ⟨h.size, fun k g1 g2 g3 => h.block k (Nat.le_trans h1 g1) (Nat.lt_of_lt_of_le g2 h2) g3⟩
theorem OwnSl.keepB {α : Type} {base e sz : Nat} {enc : α → List Value} {w w' : World} {v : Value} {ys : List α} (h : OwnSl base e sz enc w v ys) (hb : ∀ g, v.ownBlock = some g → base ≤ g → g < w.heap.size → w'.heap[g]? = w.heap[g]?) : OwnSl base e sz enc w' v ys := by
  refine ⟨h.1, ?_⟩
  obtain ⟨_, h | ⟨g, cap, cur, rfl, hg, hh, r⟩⟩ := h
  · exact Or.inl h
  · exact Or.inr ⟨g, cap, cur, rfl, hg, (hb g rfl hg (Array.getElem?_eq_some_iff.1 hh).1).trans hh, r⟩
/-- A slice with its block between lo and hi. -/
def OwnI {α : Type} (e sz : Nat) (enc : α → List Value) (w : World) (lo hi : Nat) (v : Value) (xs : List α) : Prop := OwnSl lo e sz enc w v xs ∧ (∀ x, v.ownBlock = some x → x < hi) ∧ lo ≤ hi
theorem OwnI.keep {α : Type} {e sz : Nat} {enc : α → List Value} {w w' : World} {lo hi : Nat} {v : Value} {xs : List α} (h : OwnI e sz enc w lo hi v xs) (hk : Kpi lo hi w w') : OwnI e sz enc w' lo hi v xs :=
  ⟨h.1.keepB (fun g h1 h2 h3 => hk.block g h2 (h.2.1 g h1) h3), h.2⟩
theorem OwnI.le {α : Type} {e sz : Nat} {enc : α → List Value} {w : World} : ∀ l h (v : Value) (xs : List α), OwnI e sz enc w l h v xs → l ≤ h := fun _ _ _ _ h => h.2.2
def PSp (w : World) (lo hi : Nat) (v : Value) (xs : List Sp) : Prop := OwnI 113 2 Sp.enc w lo hi v xs
theorem PSp.le {w : World} : ∀ l h (v : Value) (xs : List Sp), PSp w l h v xs → l ≤ h := OwnI.le
/-- A box of the call's own. -/
def OwnRw (w : World) (lo hi : Nat) (v : Value) (b : Bx) : Prop := ∃ vs mid, OwnI 100 1 enc1 w lo mid v vs ∧ OwnC (PSp w) mid hi vs b
theorem OwnRw.le {w : World} : ∀ l h (v : Value) (b : Bx), OwnRw w l h v b → l ≤ h := fun _ _ _ _ ⟨_, _, h1, h2⟩ => Nat.le_trans h1.2.2 (OwnC.le PSp.le h2)
theorem OwnRw.keep {w w' : World} {lo hi : Nat} {v : Value} {b : Bx} (h : OwnRw w lo hi v b) (hk : Kpi lo hi w w') : OwnRw w' lo hi v b := by
  obtain ⟨vs, mid, h1, h2⟩ := h
  have hm := OwnC.le PSp.le h2
  exact ⟨vs, mid, h1.keep (hk.sub (Nat.le_refl _) hm), OwnC.imp PSp.le h2 (fun l h x y g1 g2 g3 => OwnI.keep g3 (hk.sub (Nat.le_trans h1.2.2 g1) g2))⟩
theorem OwnRw.rws {w : World} {lo hi : Nat} {v : Value} {b : Bx} (h : OwnRw w lo hi v b) : Rws lo w v b := by
  obtain ⟨vs, mid, h1, h2⟩ := h
  exact ⟨vs, OwnSl.fr (sz := 1) (enc := enc1) (fun _ => rfl) h1.1, OwnC.all2 PSp.le h2 (fun l m x y g1 _ g3 => Sps.mono (OwnSl.fr (sz := 2) (enc := Sp.enc) (fun _ => rfl) g3.1) (Nat.le_trans h1.2.2 g1))⟩
def PFt (w : World) (lo hi : Nat) (r : RF) (f : Ft) : Prop := OwnRw w lo hi r.s f.box ∧ r.acc = f.acc
theorem PFt.le {w : World} : ∀ l h (r : RF) (f : Ft), PFt w l h r f → l ≤ h := fun _ _ _ _ h => OwnRw.le _ _ _ _ h.1
def OwnFs (w : World) (lo hi : Nat) (v : Value) (fs : List Ft) : Prop := ∃ rs mid, OwnI 52 2 RF.enc w lo mid v rs ∧ OwnC (PFt w) mid hi rs fs
theorem OwnFs.keep {w w' : World} {lo hi : Nat} {v : Value} {fs : List Ft} (h : OwnFs w lo hi v fs) (hk : Kpi lo hi w w') : OwnFs w' lo hi v fs := by
  obtain ⟨vs, mid, h1, h2⟩ := h
  have hm := OwnC.le PFt.le h2
  exact ⟨vs, mid, h1.keep (hk.sub (Nat.le_refl _) hm), OwnC.imp PFt.le h2 (fun l h x y g1 g2 g3 => ⟨g3.1.keep (hk.sub (Nat.le_trans h1.2.2 g1) g2), g3.2⟩)⟩
theorem OwnFs.fts {w : World} {lo hi : Nat} {v : Value} {fs : List Ft} (h : OwnFs w lo hi v fs) : Fts lo w v fs := by
  obtain ⟨vs, mid, h1, h2⟩ := h
  exact ⟨vs, OwnSl.fr (sz := 2) (enc := RF.enc) (fun _ => rfl) h1.1, OwnC.all2 PFt.le h2 (fun l m x y g1 _ g3 => ⟨Rws.mono g3.1.rws (Nat.le_trans h1.2.2 g1), g3.2⟩)⟩
theorem infoSl : (Tryd.prog.info? 100).map (fun i => (i.zero, i.size, i.bytes)) = some (some (.slice none 0 0), 1, 24) := by kernel_rfl
theorem infoFt : (Tryd.prog.info? 52).map (fun i => (i.zero, i.size, i.bytes)) = some (some (.agg #[.slice none 0 0, .bool false]), 2, 32) := by kernel_rfl
end Go.Proofs.YtkcnbkkgpampaaaDoor
