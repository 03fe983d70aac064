/- Rules without calls in memory: what lists of lists read as. -/
import Derived.Test.YtkcnbkkgpampaaaDoorSpP
import Derived.Test.YtkcnbkkgpampaaaDoorSetAll
namespace Go.Proofs.YtkcnbkkgpampaaaDoor
open Go.RowKit
abbrev Sp.enc (s : Sp) : List Value := [.int .i64 s.lo, .int .i64 s.hi]
abbrev Bx := List (List Sp)
structure Ft where
  box : Bx
  acc : Bool
  deriving DecidableEq
/-- A slice that reads as xs, in blocks from lo on. -/
def SlFr {α : Type} (lo sz : Nat) (enc : α → List Value) (w : World) (v : Value) (xs : List α) : Prop :=
  ∃ a cap, v = .slice a xs.length cap ∧ xs.length ≤ cap ∧ cap ≤ maxLen ∧ ∀ (k : Nat) x, xs[k]? = some x → ∃ b o, a = some ⟨b, o, none⟩ ∧ lo ≤ b ∧ b < w.heap.size ∧ CellsAt w b (o + k * sz) (enc x)
theorem SlFr.at {α : Type} {lo sz : Nat} {enc : α → List Value} {w : World} {v : Value} {xs : List α} (h : SlFr lo sz enc w v xs) : SlAt sz enc w v xs := by
  obtain ⟨a, cap, h1, h2, h3, hx⟩ := h
  exact ⟨a, cap, h1, h2, h3, fun k x hk => let ⟨b, o, e, _, h, c⟩ := hx k x hk; ⟨b, o, e, h, c⟩⟩
theorem SlFr.of {α : Type} {sz : Nat} {enc : α → List Value} {w : World} {v : Value} {xs : List α} (h : SlAt sz enc w v xs) : SlFr 0 sz enc w v xs := by
  obtain ⟨a, cap, h1, h2, h3, hx⟩ := h
  exact ⟨a, cap, h1, h2, h3, fun k x hk => let ⟨b, o, e, h, c⟩ := hx k x hk; ⟨b, o, e, Nat.zero_le _, h, c⟩⟩
theorem SlFr.mono {α : Type} {lo lo' sz : Nat} {enc : α → List Value} {w : World} {v : Value} {xs : List α} (h : SlFr lo sz enc w v xs) (hl : lo' ≤ lo) : SlFr lo' sz enc w v xs := by
  obtain ⟨a, cap, h1, h2, h3, hx⟩ := h
  exact ⟨a, cap, h1, h2, h3, fun k x hk => let ⟨b, o, e, hb, h, c⟩ := hx k x hk; ⟨b, o, e, Nat.le_trans hl hb, h, c⟩⟩
/-- The blocks from lo on stay as they are. -/
structure Kp (lo : Nat) (w w' : World) : Prop where
  size : w.heap.size ≤ w'.heap.size
  block : ∀ k, lo ≤ k → k < w.heap.size → w'.heap[k]? = w.heap[k]?
theorem Kp.refl (lo : Nat) (w : World) : Kp lo w w := ⟨Nat.le_refl _, fun _ _ _ => rfl⟩
theorem Kp.trans {lo : Nat} {a b c : World} (h : Kp lo a b) (k : Kp lo b c) : Kp lo a c :=
  ⟨Nat.le_trans h.size k.size, fun j h1 h2 => (k.block j h1 (Nat.lt_of_lt_of_le h2 h.size)).trans (h.block j h1 h2)⟩
theorem Kp.of {lo : Nat} {w w' : World} (h : Below w.heap.size w w') : Kp lo w w' := ⟨h.size, fun k _ hk => h.block k hk⟩
theorem SlFr.keep {α : Type} {lo sz : Nat} {enc : α → List Value} {w w' : World} {v : Value} {xs : List α} (h : SlFr lo sz enc w v xs) (hw : Kp lo w w') : SlFr lo sz enc w' v xs := by
  obtain ⟨a, cap, h1, h2, h3, hx⟩ := h
  refine ⟨a, cap, h1, h2, h3, fun k x hk => ?_⟩
  obtain ⟨b, o, e, hb, h, c⟩ := hx k x hk
  exact ⟨b, o, e, hb, Nat.lt_of_lt_of_le h hw.size, fun j u hj => (World.cell?_of_block (a := ⟨b, o + k * sz + j, none⟩) (hw.block b hb h)).trans (c j u hj)⟩
theorem SlFr.below {α : Type} {lo sz : Nat} {enc : α → List Value} {w w' : World} {v : Value} {xs : List α} (h : SlFr lo sz enc w v xs) (hw : Below w.heap.size w w') : SlFr lo sz enc w' v xs := h.keep (Kp.of hw)
theorem OwnSl.fr {α : Type} {base e sz : Nat} {enc : α → List Value} (henc : ∀ x, (enc x).length = sz) {w : World} {v : Value} {ys : List α} (h : OwnSl base e sz enc w v ys) : SlFr base sz enc w v ys := by
  rcases OwnSl.form h with ⟨rfl, rfl⟩ | ⟨g, cap, rfl, hg, hs, hl, hc, _⟩
  · exact ⟨none, 0, rfl, by simp, by simp, fun k x h => by simp at h⟩
  · refine ⟨_, _, rfl, hl, hc, fun k x hk => ⟨g, 0, rfl, hg, hs, ?_⟩⟩
    intro j c hj
    have := OwnSl.cell henc h hk j c hj
    rwa [Nat.zero_add]
/-- The two lists say the same, place by place. -/
def All2 {α β : Type} (R : α → β → Prop) (xs : List α) (ys : List β) : Prop := xs.length = ys.length ∧ ∀ (k : Nat) x y, xs[k]? = some x → ys[k]? = some y → R x y
theorem All2.mono {α β : Type} {R S : α → β → Prop} {xs : List α} {ys : List β} (h : All2 R xs ys) (hs : ∀ x y, R x y → S x y) : All2 S xs ys := ⟨h.1, fun k x y h1 h2 => hs x y (h.2 k x y h1 h2)⟩
theorem All2.nil {α β : Type} {R : α → β → Prop} : All2 R [] [] := ⟨rfl, fun k x y h => by simp at h⟩
theorem All2.left {α β : Type} {R : α → β → Prop} {xs : List α} {ys : List β} (h : All2 R xs ys) {k : Nat} {y : β} (hy : ys[k]? = some y) : ∃ x, xs[k]? = some x ∧ R x y := by
  have := (List.getElem?_eq_some_iff.1 hy).1
  have hx := List.getElem?_eq_getElem (show k < xs.length by rw [h.1]; exact this)
  exact ⟨_, hx, h.2 k _ _ hx hy⟩
theorem All2.snoc {α β : Type} {R : α → β → Prop} {xs : List α} {ys : List β} {x : α} {y : β} (h : All2 R xs ys) (hr : R x y) : All2 R (xs ++ [x]) (ys ++ [y]) := by
  refine ⟨by simp [h.1], fun k a b ha hb => ?_⟩
  by_cases hk : k < xs.length
  · rw [List.getElem?_append_left hk] at ha
    rw [List.getElem?_append_left (by rw [← h.1]; exact hk)] at hb
    exact h.2 k a b ha hb
  · have hl := (List.getElem?_eq_some_iff.1 ha).1
    simp only [List.length_append, List.length_singleton] at hl
    obtain rfl : k = xs.length := by omega
    rw [List.getElem?_append_right (Nat.le_refl _), Nat.sub_self] at ha
    rw [List.getElem?_append_right (by rw [h.1]; exact Nat.le_refl _), h.1, Nat.sub_self] at hb
    simp at ha hb
    subst ha hb
    exact hr
theorem All2.take {α β : Type} {R : α → β → Prop} {xs : List α} {ys : List β} (h : All2 R xs ys) (n : Nat) : All2 R (xs.take n) (ys.take n) := by
  refine ⟨by simp [h.1], fun k a b ha hb => ?_⟩
  have hl := (List.getElem?_eq_some_iff.1 ha).1
  simp only [List.length_take] at hl
  rw [List.getElem?_take_of_lt (by omega)] at ha hb
  exact h.2 k a b ha hb
theorem All2.set {α β : Type} {R : α → β → Prop} {xs : List α} {ys : List β} {x : α} {y : β} (h : All2 R xs ys) (hr : R x y) (n : Nat) : All2 R (xs.set n x) (ys.set n y) := by
  refine ⟨by simp [h.1], fun k a b ha hb => ?_⟩
  by_cases hk : n = k
  · subst hk
    have hl := (List.getElem?_eq_some_iff.1 ha).1
    simp only [List.length_set] at hl
    rw [List.getElem?_set_self hl] at ha
    rw [List.getElem?_set_self (by rw [← h.1]; exact hl)] at hb
    cases ha; cases hb
    exact hr
  · rw [List.getElem?_set_ne hk] at ha hb
    exact h.2 k a b ha hb
abbrev enc1 (v : Value) : List Value := [v]
structure RF where
  s : Value
  acc : Bool
abbrev RF.enc (r : RF) : List Value := [r.s, .bool r.acc]
structure R5 where
  v0 : Value
  v1 : Value
  v2 : Value
  v3 : Value
  acc : Bool
abbrev R5.enc (r : R5) : List Value := [r.v0, r.v1, r.v2, r.v3, .bool r.acc]
def Sps (lo : Nat) (w : World) (v : Value) (xs : List Sp) : Prop := SlFr lo 2 Sp.enc w v xs
def Rws (lo : Nat) (w : World) (v : Value) (b : Bx) : Prop := ∃ vs, SlFr lo 1 enc1 w v vs ∧ All2 (Sps lo w) vs b
def Fts (lo : Nat) (w : World) (v : Value) (fs : List Ft) : Prop := ∃ rs, SlFr lo 2 RF.enc w v rs ∧ All2 (fun (r : RF) (f : Ft) => Rws lo w r.s f.box ∧ r.acc = f.acc) rs fs
def Bxs (lo : Nat) (w : World) (v : Value) (bs : List Bx) : Prop := ∃ vs, SlFr lo 1 enc1 w v vs ∧ All2 (Rws lo w) vs bs
/-- The four sets of a box inside the program. -/
def R5.ok (lo : Nat) (w : World) (r : R5) (f : Ft) : Prop := All2 (Sps lo w) [r.v0, r.v1, r.v2, r.v3] f.box ∧ r.acc = f.acc
def Ifs (lo : Nat) (w : World) (v : Value) (fs : List Ft) : Prop := ∃ rs, SlFr lo 5 R5.enc w v rs ∧ All2 (R5.ok lo w) rs fs
theorem Sps.keep {lo : Nat} {w w' : World} {v : Value} {xs : List Sp} (h : Sps lo w v xs) (hw : Kp lo w w') : Sps lo w' v xs := SlFr.keep h hw
theorem Rws.keep {lo : Nat} {w w' : World} {v : Value} {b : Bx} (h : Rws lo w v b) (hw : Kp lo w w') : Rws lo w' v b :=
  let ⟨vs, h1, h2⟩ := h; ⟨vs, h1.keep hw, h2.mono (fun _ _ h => h.keep hw)⟩
theorem Fts.keep {lo : Nat} {w w' : World} {v : Value} {fs : List Ft} (h : Fts lo w v fs) (hw : Kp lo w w') : Fts lo w' v fs :=
  let ⟨rs, h1, h2⟩ := h; ⟨rs, h1.keep hw, h2.mono (fun _ _ h => ⟨h.1.keep hw, h.2⟩)⟩
theorem Bxs.keep {lo : Nat} {w w' : World} {v : Value} {bs : List Bx} (h : Bxs lo w v bs) (hw : Kp lo w w') : Bxs lo w' v bs :=
  let ⟨vs, h1, h2⟩ := h; ⟨vs, h1.keep hw, h2.mono (fun _ _ h => h.keep hw)⟩
theorem R5.ok.keep {lo : Nat} {w w' : World} {r : R5} {f : Ft} (h : R5.ok lo w r f) (hw : Kp lo w w') : R5.ok lo w' r f := ⟨h.1.mono (fun _ _ h => h.keep hw), h.2⟩
theorem Ifs.keep {lo : Nat} {w w' : World} {v : Value} {fs : List Ft} (h : Ifs lo w v fs) (hw : Kp lo w w') : Ifs lo w' v fs :=
  let ⟨rs, h1, h2⟩ := h; ⟨rs, h1.keep hw, h2.mono (fun _ _ h => h.keep hw)⟩
theorem Sps.mono {lo lo' : Nat} {w : World} {v : Value} {xs : List Sp} (h : Sps lo w v xs) (hl : lo' ≤ lo) : Sps lo' w v xs := SlFr.mono h hl
theorem Rws.mono {lo lo' : Nat} {w : World} {v : Value} {b : Bx} (h : Rws lo w v b) (hl : lo' ≤ lo) : Rws lo' w v b :=
  let ⟨vs, h1, h2⟩ := h; ⟨vs, h1.mono hl, h2.mono (fun _ _ h => h.mono hl)⟩
theorem Fts.mono {lo lo' : Nat} {w : World} {v : Value} {fs : List Ft} (h : Fts lo w v fs) (hl : lo' ≤ lo) : Fts lo' w v fs :=
  let ⟨rs, h1, h2⟩ := h; ⟨rs, h1.mono hl, h2.mono (fun _ _ h => ⟨h.1.mono hl, h.2⟩)⟩
theorem Bxs.mono {lo lo' : Nat} {w : World} {v : Value} {bs : List Bx} (h : Bxs lo w v bs) (hl : lo' ≤ lo) : Bxs lo' w v bs :=
  let ⟨vs, h1, h2⟩ := h; ⟨vs, h1.mono hl, h2.mono (fun _ _ h => h.mono hl)⟩
theorem Sps.below {lo : Nat} {w w' : World} {v : Value} {xs : List Sp} (h : Sps lo w v xs) (hb : Below w.heap.size w w') : Sps lo w' v xs := h.keep (Kp.of hb)
theorem Rws.below {lo : Nat} {w w' : World} {v : Value} {b : Bx} (h : Rws lo w v b) (hb : Below w.heap.size w w') : Rws lo w' v b := h.keep (Kp.of hb)
theorem Fts.below {lo : Nat} {w w' : World} {v : Value} {fs : List Ft} (h : Fts lo w v fs) (hb : Below w.heap.size w w') : Fts lo w' v fs := h.keep (Kp.of hb)
theorem Bxs.below {lo : Nat} {w w' : World} {v : Value} {bs : List Bx} (h : Bxs lo w v bs) (hb : Below w.heap.size w w') : Bxs lo w' v bs := h.keep (Kp.of hb)
theorem Ifs.below {lo : Nat} {w w' : World} {v : Value} {fs : List Ft} (h : Ifs lo w v fs) (hb : Below w.heap.size w w') : Ifs lo w' v fs := h.keep (Kp.of hb)
/-- A set's range number k. -/
theorem Sps.at {lo : Nat} {w : World} {a : Option Addr} {n cap : Nat} {xs : List Sp} (h : Sps lo w (.slice a n cap) xs) {k : Nat} (hk : k < xs.length) :
    ∃ b o f1 f2, a = some ⟨b, o, none⟩ ∧ b < w.heap.size ∧ xs[k]? = some ⟨f1, f2⟩ ∧ w.cell? ⟨b, o + k * 2, none⟩ = some (.int .i64 f1) ∧ w.cell? ⟨b, o + k * 2 + 1, none⟩ = some (.int .i64 f2) := by
  obtain ⟨a', cap', he, _, _, hx⟩ := h
  obtain ⟨rfl, _, _⟩ := Value.slice.inj he
  obtain ⟨b, o, ha, _, hb, hc⟩ := hx k _ (List.getElem?_eq_getElem hk)
  exact ⟨b, o, _, _, ha, hb, List.getElem?_eq_getElem hk, by simpa using hc 0 _ rfl, hc 1 _ rfl⟩
/-- A box's set number k. -/
theorem Rws.at {lo : Nat} {w : World} {a : Option Addr} {n cap : Nat} {bx : Bx} (h : Rws lo w (.slice a n cap) bx) {k : Nat} {xs : List Sp} (hk : bx[k]? = some xs) :
    ∃ b o sv, a = some ⟨b, o, none⟩ ∧ b < w.heap.size ∧ w.cell? ⟨b, o + k, none⟩ = some sv ∧ Sps lo w sv xs := by
  obtain ⟨vs, ⟨a', cap', he, _, _, hx⟩, h2⟩ := h
  obtain ⟨rfl, _, _⟩ := Value.slice.inj he
  obtain ⟨v, hv, hs⟩ := h2.left hk
  obtain ⟨b, o, ha, _, hb, hc⟩ := hx k v hv
  exact ⟨b, o, v, ha, hb, by simpa using hc 0 _ rfl, hs⟩
theorem Rws.form {lo : Nat} {w : World} {v : Value} {bx : Bx} (h : Rws lo w v bx) : ∃ a cap, v = .slice a bx.length cap ∧ bx.length ≤ cap ∧ cap ≤ maxLen := by
  obtain ⟨vs, ⟨a, cap, rfl, h1, h2, _⟩, h3⟩ := h
  exact ⟨a, cap, by rw [h3.1], by rw [← h3.1]; exact h1, h2⟩
theorem Sps.form {lo : Nat} {w : World} {v : Value} {xs : List Sp} (h : Sps lo w v xs) : ∃ a cap, v = .slice a xs.length cap ∧ xs.length ≤ cap ∧ cap ≤ maxLen := by
  obtain ⟨a, cap, rfl, h1, h2, _⟩ := h
  exact ⟨a, cap, rfl, h1, h2⟩
theorem Fts.form {lo : Nat} {w : World} {v : Value} {fs : List Ft} (h : Fts lo w v fs) : ∃ a cap, v = .slice a fs.length cap ∧ fs.length ≤ cap ∧ cap ≤ maxLen := by
  obtain ⟨vs, ⟨a, cap, rfl, h1, h2, _⟩, h3⟩ := h
  exact ⟨a, cap, by rw [h3.1], by rw [← h3.1]; exact h1, h2⟩
theorem Bxs.form {lo : Nat} {w : World} {v : Value} {bs : List Bx} (h : Bxs lo w v bs) : ∃ a cap, v = .slice a bs.length cap ∧ bs.length ≤ cap ∧ cap ≤ maxLen := by
  obtain ⟨vs, ⟨a, cap, rfl, h1, h2, _⟩, h3⟩ := h
  exact ⟨a, cap, by rw [h3.1], by rw [← h3.1]; exact h1, h2⟩
theorem Ifs.form {lo : Nat} {w : World} {v : Value} {fs : List Ft} (h : Ifs lo w v fs) : ∃ a cap, v = .slice a fs.length cap ∧ fs.length ≤ cap ∧ cap ≤ maxLen := by
  obtain ⟨vs, ⟨a, cap, rfl, h1, h2, _⟩, h3⟩ := h
  exact ⟨a, cap, by rw [h3.1], by rw [← h3.1]; exact h1, h2⟩
/-- Rule number k of a list: its box's slice and its word. -/
theorem Fts.at {lo : Nat} {w : World} {a : Option Addr} {n cap : Nat} {fs : List Ft} (h : Fts lo w (.slice a n cap) fs) {k : Nat} {f : Ft} (hk : fs[k]? = some f) :
    ∃ b o sv, a = some ⟨b, o, none⟩ ∧ b < w.heap.size ∧ w.cell? ⟨b, o + k * 2, none⟩ = some sv ∧ w.cell? ⟨b, o + k * 2 + 1, none⟩ = some (.bool f.acc) ∧ Rws lo w sv f.box := by
  obtain ⟨rs, ⟨a', cap', he, _, _, hx⟩, h2⟩ := h
  obtain ⟨rfl, _, _⟩ := Value.slice.inj he
  obtain ⟨r, hr, hs, hacc⟩ := h2.left hk
  obtain ⟨b, o, ha, _, hb, hc⟩ := hx k r hr
  exact ⟨b, o, r.s, ha, hb, by simpa using hc 0 _ rfl, by rw [← hacc]; exact hc 1 _ rfl, hs⟩
theorem Bxs.at {lo : Nat} {w : World} {a : Option Addr} {n cap : Nat} {bs : List Bx} (h : Bxs lo w (.slice a n cap) bs) {k : Nat} {f : Bx} (hk : bs[k]? = some f) :
    ∃ b o sv, a = some ⟨b, o, none⟩ ∧ b < w.heap.size ∧ w.cell? ⟨b, o + k, none⟩ = some sv ∧ Rws lo w sv f := by
  obtain ⟨rs, ⟨a', cap', he, _, _, hx⟩, h2⟩ := h
  obtain ⟨rfl, _, _⟩ := Value.slice.inj he
  obtain ⟨r, hr, hs⟩ := h2.left hk
  obtain ⟨b, o, ha, _, hb, hc⟩ := hx k r hr
  exact ⟨b, o, r, ha, hb, by simpa using hc 0 _ rfl, hs⟩
theorem Ifs.at {lo : Nat} {w : World} {a : Option Addr} {n cap : Nat} {fs : List Ft} (h : Ifs lo w (.slice a n cap) fs) {k : Nat} {f : Ft} (hk : fs[k]? = some f) :
    ∃ b o v0 v1 v2 v3, a = some ⟨b, o, none⟩ ∧ b < w.heap.size ∧ w.cell? ⟨b, o + k * 5, none⟩ = some v0 ∧ w.cell? ⟨b, o + k * 5 + 1, none⟩ = some v1 ∧ w.cell? ⟨b, o + k * 5 + 2, none⟩ = some v2 ∧ w.cell? ⟨b, o + k * 5 + 3, none⟩ = some v3 ∧
      w.cell? ⟨b, o + k * 5 + 4, none⟩ = some (.bool f.acc) ∧ All2 (Sps lo w) [v0, v1, v2, v3] f.box := by
  obtain ⟨rs, ⟨a', cap', he, _, _, hx⟩, h2⟩ := h
  obtain ⟨rfl, _, _⟩ := Value.slice.inj he
  obtain ⟨r, hr, hs, hacc⟩ := h2.left hk
  obtain ⟨b, o, ha, _, hb, hc⟩ := hx k r hr
  exact ⟨b, o, r.v0, r.v1, r.v2, r.v3, ha, hb, by simpa using hc 0 _ rfl, hc 1 _ rfl, hc 2 _ rfl, hc 3 _ rfl, by rw [← hacc]; exact hc 4 _ rfl, hs⟩
end Go.Proofs.YtkcnbkkgpampaaaDoor
