/- Walks on sets and boxes, second part. -/
import Derived.Test.YtajcogpfmpehkaaDoorFmA
namespace Go.Proofs.YtajcogpfmpehkaaDoor
open Go.RowKit
def Spz (w : World) (v : Value) (xs : List Sp) : Prop := SlAt 2 Sp.enc w v xs
theorem Spz.below {w w' : World} {v : Value} {xs : List Sp} (h : Spz w v xs) (hb : Below w.heap.size w w') : Spz w' v xs := SlAt.below h hb
theorem Sps.z {lo : Nat} {w : World} {v : Value} {xs : List Sp} (h : Sps lo w v xs) : Spz w v xs := SlFr.at h
theorem Spz.s {w : World} {v : Value} {xs : List Sp} (h : Spz w v xs) : Sps 0 w v xs := SlFr.of h
theorem Spz.at {w : World} {a : Option Addr} {n cap : Nat} {xs : List Sp} (h : Spz w (.slice a n cap) xs) {k : Nat} (hk : k < xs.length) :
    ∃ b o f1 f2, a = some ⟨b, o, none⟩ ∧ b < w.heap.size ∧ xs[k]? = some ⟨f1, f2⟩ ∧ w.cell? ⟨b, o + k * 2, none⟩ = some (.int .i64 f1) ∧ w.cell? ⟨b, o + k * 2 + 1, none⟩ = some (.int .i64 f2) := Sps.at h.s hk
theorem OwnSp.z {base : Nat} {w : World} {v : Value} {ys : List Sp} (h : OwnSp base w v ys) : Spz w v ys := OwnSl.at (sz := 2) (enc := Sp.enc) (fun _ => rfl) h
def sumTo {α : Type} (f : α → Nat) (l : List α) (k : Nat) : Nat := ((l.take k).map f).sum
def bxN (b : Bx) : Nat := b.length + sumTo List.length b b.length
def ftN (fs : List Ft) : Nat := fs.length + sumTo (fun f => bxN f.box) fs fs.length
def szOf (l : Int) (n : Nat) : Int := if l < n then -1 else l - n
theorem take_eq_succ {α : Type} {xs ys : List α} {k : Nat} {x y : α} (h : xs.take k = ys.take k) (hx : xs[k]? = some x) (hy : ys[k]? = some y) (e : x = y) : xs.take (k + 1) = ys.take (k + 1) := by
  rw [List.take_add_one, List.take_add_one, h, hx, hy, e]
/-- The elements own one interval of blocks behind another. -/
def OwnC {α β : Type} (P : Nat → Nat → α → β → Prop) : Nat → Nat → List α → List β → Prop
  | lo, hi, [], [] => lo ≤ hi
  | lo, hi, a :: la, b :: lb => ∃ mid, P lo mid a b ∧ OwnC P mid hi la lb
  | _, _, _, _ => False
theorem OwnC.le {α β : Type} {P : Nat → Nat → α → β → Prop} (hP : ∀ l h x y, P l h x y → l ≤ h) : ∀ {lo hi : Nat} {la : List α} {lb : List β}, OwnC P lo hi la lb → lo ≤ hi
  | _, _, [], [], h => h
  | _, _, [], _ :: _, h => h.elim
  | _, _, _ :: _, [], h => h.elim
  | _, _, _ :: _, _ :: _, ⟨_, h1, h2⟩ => Nat.le_trans (hP _ _ _ _ h1) (OwnC.le hP h2)
theorem OwnC.len {α β : Type} {P : Nat → Nat → α → β → Prop} : ∀ {lo hi : Nat} {la : List α} {lb : List β}, OwnC P lo hi la lb → la.length = lb.length
  | _, _, [], [], _ => rfl
  | _, _, [], _ :: _, h => h.elim
  | _, _, _ :: _, [], h => h.elim
  | _, _, _ :: _, _ :: _, ⟨_, _, h2⟩ => by simp [OwnC.len h2]
theorem OwnC.snoc {α β : Type} {P : Nat → Nat → α → β → Prop} {hi' : Nat} {a : α} {b : β} : ∀ {lo hi : Nat} {la : List α} {lb : List β}, OwnC P lo hi la lb → (∀ l, l ≤ hi → P l hi' a b) → hi ≤ hi' → OwnC P lo hi' (la ++ [a]) (lb ++ [b])
  | _, _, [], [], h, hp, _ => ⟨hi', hp _ h, Nat.le_refl _⟩
  | _, _, [], _ :: _, h, _, _ => h.elim
  | _, _, _ :: _, [], h, _, _ => h.elim
  | _, _, _ :: _, _ :: _, ⟨mid, h1, h2⟩, hp, hh => ⟨mid, h1, OwnC.snoc h2 hp hh⟩
theorem OwnC.imp {α β : Type} {P P' : Nat → Nat → α → β → Prop} (hP : ∀ l h x y, P l h x y → l ≤ h) : ∀ {lo hi : Nat} {la : List α} {lb : List β}, OwnC P lo hi la lb → (∀ l h x y, lo ≤ l → h ≤ hi → P l h x y → P' l h x y) → OwnC P' lo hi la lb
  | _, _, [], [], h, _ => h
  | _, _, [], _ :: _, h, _ => h.elim
  | _, _, _ :: _, [], h, _ => h.elim
  | _, _, _ :: _, _ :: _, ⟨mid, h1, h2⟩, hp => ⟨mid, hp _ _ _ _ (Nat.le_refl _) (OwnC.le hP h2) h1, OwnC.imp hP h2 (fun l h x y g1 g2 g3 => hp l h x y (Nat.le_trans (hP _ _ _ _ h1) g1) g2 g3)⟩
theorem OwnC.hi {α β : Type} {P : Nat → Nat → α → β → Prop} {hi' : Nat} : ∀ {lo hi : Nat} {la : List α} {lb : List β}, OwnC P lo hi la lb → hi ≤ hi' → OwnC P lo hi' la lb
  | _, _, [], [], h, hh => Nat.le_trans h hh
  | _, _, [], _ :: _, h, _ => h.elim
  | _, _, _ :: _, [], h, _ => h.elim
  | _, _, _ :: _, _ :: _, ⟨mid, h1, h2⟩, hh => ⟨mid, h1, OwnC.hi h2 hh⟩
/-- One element is turned, the others stay. -/
theorem OwnC.step {α β : Type} {P : Nat → Nat → α → β → Prop} (hP : ∀ l h x y, P l h x y → l ≤ h) {a : α} {b : β} : ∀ {lo hi : Nat} {la : List α} {lb : List β} (i : Nat), OwnC P lo hi la lb → la[i]? = some a → lb[i]? = some b →
    ∃ l m, lo ≤ l ∧ l ≤ m ∧ m ≤ hi ∧ P l m a b ∧ ∀ (P' : Nat → Nat → α → β → Prop) (a' : α) (b' : β), P' l m a' b' → (∀ l' h' x y, (h' ≤ l ∨ m ≤ l') → P l' h' x y → P' l' h' x y) → OwnC P' lo hi (la.set i a') (lb.set i b')
  | _, _, [], _, i, _, ha, _ => by simp at ha
  | _, _, _ :: _, [], i, h, _, _ => h.elim
  | lo, hi, x :: la, y :: lb, 0, ⟨mid, h1, h2⟩, ha, hb => by
    simp at ha hb
    subst ha hb
    refine ⟨lo, mid, Nat.le_refl _, hP _ _ _ _ h1, OwnC.le hP h2, h1, fun P' a' b' h3 h4 => ⟨mid, h3, ?_⟩⟩
    exact OwnC.imp hP h2 (fun l h x y g1 _ g3 => h4 l h x y (.inr g1) g3)
  | lo, hi, x :: la, y :: lb, i + 1, ⟨mid, h1, h2⟩, ha, hb => by
    obtain ⟨l, m, k1, k2, k3, k4, k5⟩ := OwnC.step hP i h2 (by simpa using ha) (by simpa using hb)
    refine ⟨l, m, Nat.le_trans (hP _ _ _ _ h1) k1, k2, k3, k4, fun P' a' b' h3 h4 => ⟨mid, h4 _ _ _ _ (.inl k1) h1, k5 P' a' b' h3 h4⟩⟩
theorem OwnC.all2 {α β : Type} {P : Nat → Nat → α → β → Prop} {R : α → β → Prop} (hP : ∀ l h x y, P l h x y → l ≤ h) {lo hi : Nat} {la : List α} {lb : List β} (h : OwnC P lo hi la lb) (hR : ∀ l m x y, lo ≤ l → m ≤ hi → P l m x y → R x y) : All2 R la lb := by
  refine ⟨h.len, fun k x y hx hy => ?_⟩
  obtain ⟨l, m, h1, _, h3, h4, _⟩ := h.step hP k hx hy
  exact hR l m x y h1 h3 h4
/-- The blocks from lo up to hi stay. -/
structure Kpi (lo hi : Nat) (w w' : World) : Prop where
  size : w.heap.size ≤ w'.heap.size
  block : ∀ k, lo ≤ k → k < hi → k < w.heap.size → w'.heap[k]? = w.heap[k]?
theorem Kpi.of {lo hi : Nat} {w w' : World} (h : Below w.heap.size w w') : Kpi lo hi w w' := ⟨h.size, fun k _ _ hk => h.block k hk⟩
theorem Kpi.sub {lo hi lo' hi' : Nat} {w w' : World} (h : Kpi lo hi w w') (h1 : lo ≤ lo') (h2 : hi' ≤ hi) : Kpi lo' hi' w w' := ⟨h.size, fun k g1 g2 g3 => h.block k (Nat.le_trans h1 g1) (Nat.lt_of_lt_of_le g2 h2) g3⟩
theorem OwnSl.keepB {α : Type} {base e sz : Nat} {enc : α → List Value} {w w' : World} {v : Value} {ys : List α} (h : OwnSl base e sz enc w v ys) (hb : ∀ g, v.ownBlock = some g → base ≤ g → g < w.heap.size → w'.heap[g]? = w.heap[g]?) : OwnSl base e sz enc w' v ys := by
  refine ⟨h.1, ?_⟩
  obtain ⟨_, h | ⟨g, cap, cur, rfl, hg, hh, r⟩⟩ := h
  · exact Or.inl h
  · exact Or.inr ⟨g, cap, cur, rfl, hg, (hb g rfl hg (Array.getElem?_eq_some_iff.1 hh).1).trans hh, r⟩
/-- A slice with its block between lo and hi. -/
def OwnI {α : Type} (e sz : Nat) (enc : α → List Value) (w : World) (lo hi : Nat) (v : Value) (xs : List α) : Prop := OwnSl lo e sz enc w v xs ∧ (∀ x, v.ownBlock = some x → x < hi) ∧ lo ≤ hi
theorem OwnI.keep {α : Type} {e sz : Nat} {enc : α → List Value} {w w' : World} {lo hi : Nat} {v : Value} {xs : List α} (h : OwnI e sz enc w lo hi v xs) (hk : Kpi lo hi w w') : OwnI e sz enc w' lo hi v xs :=
  ⟨h.1.keepB (fun g h1 h2 h3 => hk.block g h2 (h.2.1 g h1) h3), h.2⟩
theorem OwnI.le {α : Type} {e sz : Nat} {enc : α → List Value} {w : World} : ∀ l h (v : Value) (xs : List α), OwnI e sz enc w l h v xs → l ≤ h := fun _ _ _ _ h => h.2.2
def PSp (w : World) (lo hi : Nat) (v : Value) (xs : List Sp) : Prop := OwnI 70 2 Sp.enc w lo hi v xs
theorem PSp.le {w : World} : ∀ l h (v : Value) (xs : List Sp), PSp w l h v xs → l ≤ h := OwnI.le
/-- A box of the call's own. -/
def OwnRw (w : World) (lo hi : Nat) (v : Value) (b : Bx) : Prop := ∃ vs mid, OwnI 71 1 enc1 w lo mid v vs ∧ OwnC (PSp w) mid hi vs b
theorem OwnRw.le {w : World} : ∀ l h (v : Value) (b : Bx), OwnRw w l h v b → l ≤ h := fun _ _ _ _ ⟨_, _, h1, h2⟩ => Nat.le_trans h1.2.2 (OwnC.le PSp.le h2)
theorem OwnRw.keep {w w' : World} {lo hi : Nat} {v : Value} {b : Bx} (h : OwnRw w lo hi v b) (hk : Kpi lo hi w w') : OwnRw w' lo hi v b := by
  obtain ⟨vs, mid, h1, h2⟩ := h
  have hm := OwnC.le PSp.le h2
  exact ⟨vs, mid, h1.keep (hk.sub (Nat.le_refl _) hm), OwnC.imp PSp.le h2 (fun l h x y g1 g2 g3 => OwnI.keep g3 (hk.sub (Nat.le_trans h1.2.2 g1) g2))⟩
theorem OwnRw.rws {w : World} {lo hi : Nat} {v : Value} {b : Bx} (h : OwnRw w lo hi v b) : Rws lo w v b := by
  obtain ⟨vs, mid, h1, h2⟩ := h
  exact ⟨vs, OwnSl.fr (sz := 1) (enc := enc1) (fun _ => rfl) h1.1, OwnC.all2 PSp.le h2 (fun l m x y g1 _ g3 => Sps.mono (OwnSl.fr (sz := 2) (enc := Sp.enc) (fun _ => rfl) g3.1) (Nat.le_trans h1.2.2 g1))⟩
def PFt (w : World) (lo hi : Nat) (r : RF) (f : Ft) : Prop := OwnRw w lo hi r.s f.box ∧ r.acc = f.acc
theorem PFt.le {w : World} : ∀ l h (r : RF) (f : Ft), PFt w l h r f → l ≤ h := fun _ _ _ _ h => OwnRw.le _ _ _ _ h.1
def OwnFs (w : World) (lo hi : Nat) (v : Value) (fs : List Ft) : Prop := ∃ rs mid, OwnI 34 2 RF.enc w lo mid v rs ∧ OwnC (PFt w) mid hi rs fs
theorem OwnFs.keep {w w' : World} {lo hi : Nat} {v : Value} {fs : List Ft} (h : OwnFs w lo hi v fs) (hk : Kpi lo hi w w') : OwnFs w' lo hi v fs := by
  obtain ⟨vs, mid, h1, h2⟩ := h
  have hm := OwnC.le PFt.le h2
  exact ⟨vs, mid, h1.keep (hk.sub (Nat.le_refl _) hm), OwnC.imp PFt.le h2 (fun l h x y g1 g2 g3 => ⟨g3.1.keep (hk.sub (Nat.le_trans h1.2.2 g1) g2), g3.2⟩)⟩
theorem OwnFs.fts {w : World} {lo hi : Nat} {v : Value} {fs : List Ft} (h : OwnFs w lo hi v fs) : Fts lo w v fs := by
  obtain ⟨vs, mid, h1, h2⟩ := h
  exact ⟨vs, OwnSl.fr (sz := 2) (enc := RF.enc) (fun _ => rfl) h1.1, OwnC.all2 PFt.le h2 (fun l m x y g1 _ g3 => ⟨Rws.mono g3.1.rws (Nat.le_trans h1.2.2 g1), g3.2⟩)⟩
theorem infoSl : (Tryd.prog.info? 71).map (fun i => (i.zero, i.size, i.bytes)) = some (some (.slice none 0 0), 1, 24) := by kernel_rfl
def RetRw (b : Bx) (w : World) (e : Ending) (w' : World) : Prop := ∃ v, e = .returned v ∧ OwnRw w' w.heap.size w'.heap.size v b ∧ Below w.heap.size w w'
theorem set_rep {α : Type} (vs : List α) (n k : Nat) (z y : α) (hl : vs.length = k) (hk : k < n) : (vs ++ List.replicate (n - k) z).set k y = (vs ++ [y]) ++ List.replicate (n - (k + 1)) z := by
  rw [List.set_append_right _ _ (by omega), hl, Nat.sub_self, show n - k = (n - (k + 1)) + 1 from by omega, List.replicate_succ, List.set_cons_zero, List.append_assoc]
  rfl
theorem OwnI.mono {α : Type} {e sz : Nat} {enc : α → List Value} {w : World} {lo lo' hi : Nat} {v : Value} {xs : List α} (h : OwnI e sz enc w lo hi v xs) (hl : lo' ≤ lo) : OwnI e sz enc w lo' hi v xs :=
  ⟨OwnSl.mono h.1 hl, h.2.1, Nat.le_trans hl h.2.2⟩
theorem OwnRw.mono {w : World} {lo lo' hi hi' : Nat} {v : Value} {b : Bx} (h : OwnRw w lo hi v b) (hl : lo' ≤ lo) (hh : hi ≤ hi') : OwnRw w lo' hi' v b := by
  obtain ⟨vs, mid, h1, h2⟩ := h
  exact ⟨vs, mid, h1.mono hl, h2.hi hh⟩
theorem OwnFs.mono {w : World} {lo lo' hi hi' : Nat} {v : Value} {b : List Ft} (h : OwnFs w lo hi v b) (hl : lo' ≤ lo) (hh : hi ≤ hi') : OwnFs w lo' hi' v b := by
  obtain ⟨vs, mid, h1, h2⟩ := h
  exact ⟨vs, mid, h1.mono hl, h2.hi hh⟩
def RetBx (b : Bx) (w : World) (e : Ending) (w' : World) : Prop := ∃ v, e = .returned (.agg #[v]) ∧ OwnRw w' w.heap.size w'.heap.size v b ∧ Below w.heap.size w w'
def RetFt (f : Ft) (w : World) (e : Ending) (w' : World) : Prop := ∃ v, e = .returned (.agg #[v, .bool f.acc]) ∧ OwnRw w' w.heap.size w'.heap.size v f.box ∧ Below w.heap.size w w'
def RetFs (fs : List Ft) (w : World) (e : Ending) (w' : World) : Prop := ∃ v, e = .returned v ∧ OwnFs w' w.heap.size w'.heap.size v fs ∧ Below w.heap.size w w'
theorem OwnFs.form {w : World} {lo hi : Nat} {v : Value} {fs : List Ft} (h : OwnFs w lo hi v fs) : ∃ a cap, v = .slice a fs.length cap ∧ fs.length ≤ cap ∧ cap ≤ maxLen := Fts.form h.fts
end Go.Proofs.YtajcogpfmpehkaaDoor
