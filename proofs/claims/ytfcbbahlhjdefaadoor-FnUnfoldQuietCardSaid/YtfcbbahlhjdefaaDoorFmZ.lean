/- Validity of boxes and rules; the walks of the program and the reference. -/
import Derived.Test.YtfcbbahlhjdefaaDoorOpenS
import Derived.Test.YtfcbbahlhjdefaaDoorRgX
import Derived.Test.YtfcbbahlhjdefaaDoorBsA
import Derived.Laws.Rows
import Derived.Deep.RegionLaw
import Derived.Deep.AppendLies
/- How a code of letters is opened. -/
namespace Go.Proofs.YtfcbbahlhjdefaaDoor
open Go.ChangeShapes Go.WideShapes Go.ChangeAt Go.RowKit Go.Joins Go.Deep
abbrev Byte := { n : Int // 0 ≤ n ∧ n ≤ 255 }
theorem cellsByte : Tryd.prog.cellsOf 5 = 1 := by kernel_rfl
set_option maxRecDepth 100000 in
theorem byte_cells {H : Type} {en : TypeId × Value → H} {W : World} (n : Nat) (cs : List Value) (x : DataW H × List MemPlace) (h : DataW.trod en Tryd.prog W 0 (fun _ => true) true n 5 cs = some x) : ∃ y : Byte, cs = [.int .u8 y.1] := by
  obtain ⟨a, e0, _, wx⟩ := DataW.trod_int Tryd.underlying5 h
  exact ⟨⟨a, bounds_u8 wx⟩, e0⟩
set_option maxRecDepth 100000 in
theorem open_code {H : Type} {en : TypeId × Value → H} {W : World} {b0 : Nat} {r : Reach} {v : Value} {d : DataW H} {p : List MemPlace}
    (hv : Value.okWide Tryd.prog W r b0 22 v) (h : DataW.Trod en Tryd.prog W 0 (fun _ => true) true 22 v d p) : ∃ bs : List Int, CodeAt W v bs := by
  obtain ⟨xs, a, cap, e, l1, l2, hx⟩ := open_sl (sz := 1) (enc := fun y : Byte => [.int .u8 y.1]) (by omega) (fun _ => rfl) Tryd.underlying22 cellsByte byte_cells hv h
  refine ⟨xs.map Subtype.val, ⟨a, cap, by simpa using e, by simpa using l1, l2, fun k x hk => ?_⟩, fun n hn => ?_⟩
  · rw [List.getElem?_map] at hk
    obtain ⟨y, hy, rfl⟩ := Option.map_eq_some_iff.1 hk
    exact hx k y hy
  · obtain ⟨y, _, rfl⟩ := List.mem_map.1 hn
    exact y.2
end Go.Proofs.YtfcbbahlhjdefaaDoor
/- Plain facts on spans and boxes; the reference and the program on spans: walks. -/
namespace Go.Proofs.YtfcbbahlhjdefaaDoor
open Go.RowKit
abbrev Sp.enc (s : Sp) : List Value := [.int .i64 s.lo, .int .i64 s.hi]
abbrev Bx := List (List Sp)
structure Ft where
  box : Bx
  acc : Bool
  deriving DecidableEq
/-- A slice that reads as xs, in blocks from lo on. -/
def SlFr {α : Type} (lo sz : Nat) (enc : α → List Value) (w : World) (v : Value) (xs : List α) : Prop :=
  ∃ a cap, v = .slice a xs.length cap ∧ xs.length ≤ cap ∧ cap ≤ maxLen ∧ ∀ (k : Nat) x, xs[k]? = some x → ∃ b o, a = some ⟨b, o, none⟩ ∧ lo ≤ b ∧ b < w.heap.size ∧ CellsAt w b (o + k * sz) (enc x)
theorem SlFr.at {α : Type} {lo sz : Nat} {enc : α → List Value} {w : World} {v : Value} {xs : List α} (h : SlFr lo sz enc w v xs) : SlAt sz enc w v xs := by
  obtain ⟨a, cap, h1, h2, h3, hx⟩ := h
  exact ⟨a, cap, h1, h2, h3, fun k x hk => let ⟨b, o, e, _, h, c⟩ := hx k x hk; ⟨b, o, e, h, c⟩⟩
theorem SlFr.of {α : Type} {sz : Nat} {enc : α → List Value} {w : World} {v : Value} {xs : List α} (h : SlAt sz enc w v xs) : SlFr 0 sz enc w v xs := by
  obtain ⟨a, cap, h1, h2, h3, hx⟩ := h
  exact ⟨a, cap, h1, h2, h3, fun k x hk => let ⟨b, o, e, h, c⟩ := hx k x hk; ⟨b, o, e, Nat.zero_le _, h, c⟩⟩
theorem SlFr.mono {α : Type} {lo lo' sz : Nat} {enc : α → List Value} {w : World} {v : Value} {xs : List α} (h : SlFr lo sz enc w v xs) (hl : lo' ≤ lo) : SlFr lo' sz enc w v xs := by
  obtain ⟨a, cap, h1, h2, h3, hx⟩ := h
  exact ⟨a, cap, h1, h2, h3, fun k x hk => let ⟨b, o, e, hb, h, c⟩ := hx k x hk; ⟨b, o, e, Nat.le_trans hl hb, h, c⟩⟩
/-- The blocks from lo on stay as they are. -/
structure Kp (lo : Nat) (w w' : World) : Prop where
  size : w.heap.size ≤ w'.heap.size
  block : ∀ k, lo ≤ k → k < w.heap.size → w'.heap[k]? = w.heap[k]?
theorem Kp.of {lo : Nat} {w w' : World} (h : Below w.heap.size w w') : Kp lo w w' := ⟨h.size, fun k _ hk => h.block k hk⟩
theorem SlFr.keep {α : Type} {lo sz : Nat} {enc : α → List Value} {w w' : World} {v : Value} {xs : List α} (h : SlFr lo sz enc w v xs) (hw : Kp lo w w') : SlFr lo sz enc w' v xs := by
  obtain ⟨a, cap, h1, h2, h3, hx⟩ := h
  refine ⟨a, cap, h1, h2, h3, fun k x hk => ?_⟩
  obtain ⟨b, o, e, hb, h, c⟩ := hx k x hk
  exact ⟨b, o, e, hb, Nat.lt_of_lt_of_le h hw.size, fun j u hj => (World.cell?_of_block (a := ⟨b, o + k * sz + j, none⟩) (hw.block b hb h)).trans (c j u hj)⟩
theorem SlFr.below {α : Type} {lo sz : Nat} {enc : α → List Value} {w w' : World} {v : Value} {xs : List α} (h : SlFr lo sz enc w v xs) (hw : Below w.heap.size w w') : SlFr lo sz enc w' v xs := h.keep (Kp.of hw)
theorem OwnSl.fr {α : Type} {base e sz : Nat} {enc : α → List Value} (henc : ∀ x, (enc x).length = sz) {w : World} {v : Value} {ys : List α} (h : OwnSl base e sz enc w v ys) : SlFr base sz enc w v ys := by
  rcases OwnSl.form h with ⟨rfl, rfl⟩ | ⟨g, cap, rfl, hg, hs, hl, hc, _⟩
  · exact ⟨none, 0, rfl, by simp, by simp, fun k x h => by simp at h⟩
  · refine ⟨_, _, rfl, hl, hc, fun k x hk => ⟨g, 0, rfl, hg, hs, ?_⟩⟩
    intro j c hj
    have := OwnSl.cell henc h hk j c hj
    rwa [Nat.zero_add]
/-- The two lists say the same, place by place. -/
def All2 {α β : Type} (R : α → β → Prop) (xs : List α) (ys : List β) : Prop := xs.length = ys.length ∧ ∀ (k : Nat) x y, xs[k]? = some x → ys[k]? = some y → R x y
theorem All2.mono {α β : Type} {R S : α → β → Prop} {xs : List α} {ys : List β} (h : All2 R xs ys) (hs : ∀ x y, R x y → S x y) : All2 S xs ys := ⟨h.1, fun k x y h1 h2 => hs x y (h.2 k x y h1 h2)⟩
theorem All2.nil {α β : Type} {R : α → β → Prop} : All2 R [] [] := ⟨rfl, fun k x y h => by simp at h⟩
theorem All2.left {α β : Type} {R : α → β → Prop} {xs : List α} {ys : List β} (h : All2 R xs ys) {k : Nat} {y : β} (hy : ys[k]? = some y) : ∃ x, xs[k]? = some x ∧ R x y := by
  have := (List.getElem?_eq_some_iff.1 hy).1
  have hx := List.getElem?_eq_getElem (show k < xs.length by rw [h.1]; exact this)
  exact ⟨_, hx, h.2 k _ _ hx hy⟩
theorem All2.snoc {α β : Type} {R : α → β → Prop} {xs : List α} {ys : List β} {x : α} {y : β} (h : All2 R xs ys) (hr : R x y) : All2 R (xs ++ [x]) (ys ++ [y]) := by
  refine ⟨by simp [h.1], fun k a b ha hb => ?_⟩
  by_cases hk : k < xs.length
  · rw [List.getElem?_append_left hk] at ha
    rw [List.getElem?_append_left (by rw [← h.1]; exact hk)] at hb
    exact h.2 k a b ha hb
  · have hl := (List.getElem?_eq_some_iff.1 ha).1
    simp only [List.length_append, List.length_singleton] at hl
    obtain rfl : k = xs.length := by omega
    rw [List.getElem?_append_right (Nat.le_refl _), Nat.sub_self] at ha
    rw [List.getElem?_append_right (by rw [h.1]; exact Nat.le_refl _), h.1, Nat.sub_self] at hb
    simp at ha hb
    subst ha hb
    exact hr
theorem All2.set {α β : Type} {R : α → β → Prop} {xs : List α} {ys : List β} {x : α} {y : β} (h : All2 R xs ys) (hr : R x y) (n : Nat) : All2 R (xs.set n x) (ys.set n y) := by
  refine ⟨by simp [h.1], fun k a b ha hb => ?_⟩
  by_cases hk : n = k
  · subst hk
    have hl := (List.getElem?_eq_some_iff.1 ha).1
    simp only [List.length_set] at hl
    rw [List.getElem?_set_self hl] at ha
    rw [List.getElem?_set_self (by rw [← h.1]; exact hl)] at hb
    cases ha; cases hb
    exact hr
  · rw [List.getElem?_set_ne hk] at ha hb
    exact h.2 k a b ha hb
abbrev enc1 (v : Value) : List Value := [v]
structure RF where
  s : Value
  acc : Bool
abbrev RF.enc (r : RF) : List Value := [r.s, .bool r.acc]
structure R5 where
  v0 : Value
  v1 : Value
  v2 : Value
  v3 : Value
  acc : Bool
abbrev R5.enc (r : R5) : List Value := [r.v0, r.v1, r.v2, r.v3, .bool r.acc]
def Sps (lo : Nat) (w : World) (v : Value) (xs : List Sp) : Prop := SlFr lo 2 Sp.enc w v xs
def Rws (lo : Nat) (w : World) (v : Value) (b : Bx) : Prop := ∃ vs, SlFr lo 1 enc1 w v vs ∧ All2 (Sps lo w) vs b
def Fts (lo : Nat) (w : World) (v : Value) (fs : List Ft) : Prop := ∃ rs, SlFr lo 2 RF.enc w v rs ∧ All2 (fun (r : RF) (f : Ft) => Rws lo w r.s f.box ∧ r.acc = f.acc) rs fs
/-- The four sets of a box inside the program. -/
def R5.ok (lo : Nat) (w : World) (r : R5) (f : Ft) : Prop := All2 (Sps lo w) [r.v0, r.v1, r.v2, r.v3] f.box ∧ r.acc = f.acc
def Ifs (lo : Nat) (w : World) (v : Value) (fs : List Ft) : Prop := ∃ rs, SlFr lo 5 R5.enc w v rs ∧ All2 (R5.ok lo w) rs fs
theorem Sps.keep {lo : Nat} {w w' : World} {v : Value} {xs : List Sp} (h : Sps lo w v xs) (hw : Kp lo w w') : Sps lo w' v xs := SlFr.keep h hw
theorem Rws.keep {lo : Nat} {w w' : World} {v : Value} {b : Bx} (h : Rws lo w v b) (hw : Kp lo w w') : Rws lo w' v b :=
  let ⟨vs, h1, h2⟩ := h; ⟨vs, h1.keep hw, h2.mono (fun _ _ h => h.keep hw)⟩
theorem Fts.keep {lo : Nat} {w w' : World} {v : Value} {fs : List Ft} (h : Fts lo w v fs) (hw : Kp lo w w') : Fts lo w' v fs :=
  let ⟨rs, h1, h2⟩ := h; ⟨rs, h1.keep hw, h2.mono (fun _ _ h => ⟨h.1.keep hw, h.2⟩)⟩
theorem R5.ok.keep {lo : Nat} {w w' : World} {r : R5} {f : Ft} (h : R5.ok lo w r f) (hw : Kp lo w w') : R5.ok lo w' r f := ⟨h.1.mono (fun _ _ h => h.keep hw), h.2⟩
theorem Ifs.keep {lo : Nat} {w w' : World} {v : Value} {fs : List Ft} (h : Ifs lo w v fs) (hw : Kp lo w w') : Ifs lo w' v fs :=
  let ⟨rs, h1, h2⟩ := h; ⟨rs, h1.keep hw, h2.mono (fun _ _ h => h.keep hw)⟩
theorem Sps.mono {lo lo' : Nat} {w : World} {v : Value} {xs : List Sp} (h : Sps lo w v xs) (hl : lo' ≤ lo) : Sps lo' w v xs := SlFr.mono h hl
theorem Rws.mono {lo lo' : Nat} {w : World} {v : Value} {b : Bx} (h : Rws lo w v b) (hl : lo' ≤ lo) : Rws lo' w v b :=
  let ⟨vs, h1, h2⟩ := h; ⟨vs, h1.mono hl, h2.mono (fun _ _ h => h.mono hl)⟩
theorem Fts.mono {lo lo' : Nat} {w : World} {v : Value} {fs : List Ft} (h : Fts lo w v fs) (hl : lo' ≤ lo) : Fts lo' w v fs :=
  let ⟨rs, h1, h2⟩ := h; ⟨rs, h1.mono hl, h2.mono (fun _ _ h => ⟨h.1.mono hl, h.2⟩)⟩
theorem Sps.below {lo : Nat} {w w' : World} {v : Value} {xs : List Sp} (h : Sps lo w v xs) (hb : Below w.heap.size w w') : Sps lo w' v xs := h.keep (Kp.of hb)
theorem Fts.below {lo : Nat} {w w' : World} {v : Value} {fs : List Ft} (h : Fts lo w v fs) (hb : Below w.heap.size w w') : Fts lo w' v fs := h.keep (Kp.of hb)
theorem Ifs.below {lo : Nat} {w w' : World} {v : Value} {fs : List Ft} (h : Ifs lo w v fs) (hb : Below w.heap.size w w') : Ifs lo w' v fs := h.keep (Kp.of hb)
/-- A set's range number k. -/
theorem Sps.at {lo : Nat} {w : World} {a : Option Addr} {n cap : Nat} {xs : List Sp} (h : Sps lo w (.slice a n cap) xs) {k : Nat} (hk : k < xs.length) :
    ∃ b o f1 f2, a = some ⟨b, o, none⟩ ∧ b < w.heap.size ∧ xs[k]? = some ⟨f1, f2⟩ ∧ w.cell? ⟨b, o + k * 2, none⟩ = some (.int .i64 f1) ∧ w.cell? ⟨b, o + k * 2 + 1, none⟩ = some (.int .i64 f2) := by
  obtain ⟨a', cap', he, _, _, hx⟩ := h
  obtain ⟨rfl, _, _⟩ := Value.slice.inj he
  obtain ⟨b, o, ha, _, hb, hc⟩ := hx k _ (List.getElem?_eq_getElem hk)
  exact ⟨b, o, _, _, ha, hb, List.getElem?_eq_getElem hk, by simpa using hc 0 _ rfl, hc 1 _ rfl⟩
theorem Rws.form {lo : Nat} {w : World} {v : Value} {bx : Bx} (h : Rws lo w v bx) : ∃ a cap, v = .slice a bx.length cap ∧ bx.length ≤ cap ∧ cap ≤ maxLen := by
  obtain ⟨vs, ⟨a, cap, rfl, h1, h2, _⟩, h3⟩ := h
  exact ⟨a, cap, by rw [h3.1], by rw [← h3.1]; exact h1, h2⟩
theorem Sps.form {lo : Nat} {w : World} {v : Value} {xs : List Sp} (h : Sps lo w v xs) : ∃ a cap, v = .slice a xs.length cap ∧ xs.length ≤ cap ∧ cap ≤ maxLen := by
  obtain ⟨a, cap, rfl, h1, h2, _⟩ := h
  exact ⟨a, cap, rfl, h1, h2⟩
theorem Fts.form {lo : Nat} {w : World} {v : Value} {fs : List Ft} (h : Fts lo w v fs) : ∃ a cap, v = .slice a fs.length cap ∧ fs.length ≤ cap ∧ cap ≤ maxLen := by
  obtain ⟨vs, ⟨a, cap, rfl, h1, h2, _⟩, h3⟩ := h
  exact ⟨a, cap, by rw [h3.1], by rw [← h3.1]; exact h1, h2⟩
theorem Ifs.form {lo : Nat} {w : World} {v : Value} {fs : List Ft} (h : Ifs lo w v fs) : ∃ a cap, v = .slice a fs.length cap ∧ fs.length ≤ cap ∧ cap ≤ maxLen := by
  obtain ⟨vs, ⟨a, cap, rfl, h1, h2, _⟩, h3⟩ := h
  exact ⟨a, cap, by rw [h3.1], by rw [← h3.1]; exact h1, h2⟩
theorem Ifs.at {lo : Nat} {w : World} {a : Option Addr} {n cap : Nat} {fs : List Ft} (h : Ifs lo w (.slice a n cap) fs) {k : Nat} {f : Ft} (hk : fs[k]? = some f) :
    ∃ b o v0 v1 v2 v3, a = some ⟨b, o, none⟩ ∧ b < w.heap.size ∧ w.cell? ⟨b, o + k * 5, none⟩ = some v0 ∧ w.cell? ⟨b, o + k * 5 + 1, none⟩ = some v1 ∧ w.cell? ⟨b, o + k * 5 + 2, none⟩ = some v2 ∧ w.cell? ⟨b, o + k * 5 + 3, none⟩ = some v3 ∧
      w.cell? ⟨b, o + k * 5 + 4, none⟩ = some (.bool f.acc) ∧ All2 (Sps lo w) [v0, v1, v2, v3] f.box := by
  obtain ⟨rs, ⟨a', cap', he, _, _, hx⟩, h2⟩ := h
  obtain ⟨rfl, _, _⟩ := Value.slice.inj he
  obtain ⟨r, hr, hs, hacc⟩ := h2.left hk
  obtain ⟨b, o, ha, _, hb, hc⟩ := hx k r hr
  exact ⟨b, o, r.v0, r.v1, r.v2, r.v3, ha, hb, by simpa using hc 0 _ rfl, hc 1 _ rfl, hc 2 _ rfl, hc 3 _ rfl, by rw [← hacc]; exact hc 4 _ rfl, hs⟩
theorem shas_hit {xs : List Sp} {n : Int} {k : Nat} {x : Sp} (hx : xs[k]? = some x) (hb : inB n x.lo x.hi = true) : shas xs n = true := by
  unfold shas
  rw [List.any_eq_true]
  exact ⟨x, List.mem_of_getElem? hx, hb⟩
set_option maxHeartbeats 400000 in
theorem specFTop_any (n : Nat) (hn : n < 4) (w : World) : Calls Tryd.prog 45 #[.int .i64 n] w fun e w' => e = .returned (.int .i64 (top n)) ∧ w = w' := by
  rcases (by omega : n = 0 ∨ n = 1 ∨ n = 2 ∨ n = 3) with rfl | rfl | rfl | rfl
  all_goals
    go_enter Tryd.func45, Tryd.ntmps45
    go_wp2
    go_ret
    exact ⟨rfl, rfl⟩
theorem top_le {n : Nat} (hn : n < 4) : 0 ≤ top n ∧ top n ≤ 65535 := by
  rcases (by omega : n = 0 ∨ n = 1 ∨ n = 2 ∨ n = 3) with rfl | rfl | rfl | rfl <;> decide
/-- The first k sets are valid. -/
def BOk (b : Bx) (k : Nat) : Prop := ∀ (i : Nat) xs, i < k → b[i]? = some xs → svalid xs (top i) = true
instance (b : Bx) (k : Nat) : Decidable (BOk b k) := decidable_of_iff (∀ i, i < k → ∀ xs, b[i]? = some xs → svalid xs (top i) = true) ⟨fun h i xs hi hx => h i hi xs hx, fun h i hi xs hx => h i xs hi hx⟩
def bvalid (b : Bx) : Bool := decide (b.length = 4 ∧ BOk b 4)
def fvalid (fs : List Ft) : Bool := decide (fs.length ≤ 60) && fs.all fun f => bvalid f.box
theorem bvalid_yes {b : Bx} (h : b.length = 4) (hb : BOk b 4) : bvalid b = true := decide_eq_true ⟨h, hb⟩
theorem infoSp : (Tryd.prog.info? 64).map (fun i => (i.zero, i.size, i.bytes)) = some (some (.agg #[.int .i64 0, .int .i64 0]), 2, 16) := by kernel_rfl
def OwnSp (base : Nat) (w : World) (v : Value) (ys : List Sp) : Prop := OwnSl base 64 2 Sp.enc w v ys
theorem OwnSp.sps {base : Nat} {w : World} {v : Value} {ys : List Sp} (h : OwnSp base w v ys) : Sps base w v ys := OwnSl.fr (sz := 2) (enc := Sp.enc) (fun _ => rfl) h
def RetSp (ys : List Sp) (w : World) (e : Ending) (w' : World) : Prop := ∃ v, e = .returned v ∧ OwnSp w.heap.size w' v ys ∧ Below w.heap.size w w'
end Go.Proofs.YtfcbbahlhjdefaaDoor
/- Walks on sets and boxes, second part. -/
namespace Go.Proofs.YtfcbbahlhjdefaaDoor
open Go.RowKit
/-- The elements own one interval of blocks behind another. -/
def OwnC {α β : Type} (P : Nat → Nat → α → β → Prop) : Nat → Nat → List α → List β → Prop
  | lo, hi, [], [] => lo ≤ hi
  | lo, hi, a :: la, b :: lb => ∃ mid, P lo mid a b ∧ OwnC P mid hi la lb
  | _, _, _, _ => False
theorem OwnC.le {α β : Type} {P : Nat → Nat → α → β → Prop} (hP : ∀ l h x y, P l h x y → l ≤ h) : ∀ {lo hi : Nat} {la : List α} {lb : List β}, OwnC P lo hi la lb → lo ≤ hi
  | _, _, [], [], h => h
  | _, _, [], _ :: _, h => h.elim
  | _, _, _ :: _, [], h => h.elim
  | _, _, _ :: _, _ :: _, ⟨_, h1, h2⟩ => Nat.le_trans (hP _ _ _ _ h1) (OwnC.le hP h2)
theorem OwnC.len {α β : Type} {P : Nat → Nat → α → β → Prop} : ∀ {lo hi : Nat} {la : List α} {lb : List β}, OwnC P lo hi la lb → la.length = lb.length
  | _, _, [], [], _ => rfl
  | _, _, [], _ :: _, h => h.elim
  | _, _, _ :: _, [], h => h.elim
  | _, _, _ :: _, _ :: _, ⟨_, _, h2⟩ => by simp [OwnC.len h2]
theorem OwnC.snoc {α β : Type} {P : Nat → Nat → α → β → Prop} {hi' : Nat} {a : α} {b : β} : ∀ {lo hi : Nat} {la : List α} {lb : List β}, OwnC P lo hi la lb → (∀ l, l ≤ hi → P l hi' a b) → hi ≤ hi' → OwnC P lo hi' (la ++ [a]) (lb ++ [b])
  | _, _, [], [], h, hp, _ => ⟨hi', hp _ h, Nat.le_refl _⟩
  | _, _, [], _ :: _, h, _, _ => h.elim
  | _, _, _ :: _, [], h, _, _ => h.elim
  | _, _, _ :: _, _ :: _, ⟨mid, h1, h2⟩, hp, hh => ⟨mid, h1, OwnC.snoc h2 hp hh⟩
theorem OwnC.imp {α β : Type} {P P' : Nat → Nat → α → β → Prop} (hP : ∀ l h x y, P l h x y → l ≤ h) : ∀ {lo hi : Nat} {la : List α} {lb : List β}, OwnC P lo hi la lb → (∀ l h x y, lo ≤ l → h ≤ hi → P l h x y → P' l h x y) → OwnC P' lo hi la lb
  | _, _, [], [], h, _ => h
  | _, _, [], _ :: _, h, _ => h.elim
  | _, _, _ :: _, [], h, _ => h.elim
  | _, _, _ :: _, _ :: _, ⟨mid, h1, h2⟩, hp => ⟨mid, hp _ _ _ _ (Nat.le_refl _) (OwnC.le hP h2) h1, OwnC.imp hP h2 (fun l h x y g1 g2 g3 => hp l h x y (Nat.le_trans (hP _ _ _ _ h1) g1) g2 g3)⟩
theorem OwnC.hi {α β : Type} {P : Nat → Nat → α → β → Prop} {hi' : Nat} : ∀ {lo hi : Nat} {la : List α} {lb : List β}, OwnC P lo hi la lb → hi ≤ hi' → OwnC P lo hi' la lb
  | _, _, [], [], h, hh => Nat.le_trans h hh
  | _, _, [], _ :: _, h, _ => h.elim
  | _, _, _ :: _, [], h, _ => h.elim
  | _, _, _ :: _, _ :: _, ⟨mid, h1, h2⟩, hh => ⟨mid, h1, OwnC.hi h2 hh⟩
/-- One element is turned, the others stay. -/
theorem OwnC.step {α β : Type} {P : Nat → Nat → α → β → Prop} (hP : ∀ l h x y, P l h x y → l ≤ h) {a : α} {b : β} : ∀ {lo hi : Nat} {la : List α} {lb : List β} (i : Nat), OwnC P lo hi la lb → la[i]? = some a → lb[i]? = some b →
    ∃ l m, lo ≤ l ∧ l ≤ m ∧ m ≤ hi ∧ P l m a b ∧ ∀ (P' : Nat → Nat → α → β → Prop) (a' : α) (b' : β), P' l m a' b' → (∀ l' h' x y, (h' ≤ l ∨ m ≤ l') → P l' h' x y → P' l' h' x y) → OwnC P' lo hi (la.set i a') (lb.set i b')
  | _, _, [], _, i, _, ha, _ => by simp at ha
  | _, _, _ :: _, [], i, h, _, _ => h.elim
  | lo, hi, x :: la, y :: lb, 0, ⟨mid, h1, h2⟩, ha, hb => by
    simp at ha hb
    subst ha hb
    refine ⟨lo, mid, Nat.le_refl _, hP _ _ _ _ h1, OwnC.le hP h2, h1, fun P' a' b' h3 h4 => ⟨mid, h3, ?_⟩⟩
    exact OwnC.imp hP h2 (fun l h x y g1 _ g3 => h4 l h x y (.inr g1) g3)
  | lo, hi, x :: la, y :: lb, i + 1, ⟨mid, h1, h2⟩, ha, hb => by
    obtain ⟨l, m, k1, k2, k3, k4, k5⟩ := OwnC.step hP i h2 (by simpa using ha) (by simpa using hb)
    refine ⟨l, m, Nat.le_trans (hP _ _ _ _ h1) k1, k2, k3, k4, fun P' a' b' h3 h4 => ⟨mid, h4 _ _ _ _ (.inl k1) h1, k5 P' a' b' h3 h4⟩⟩
theorem OwnC.all2 {α β : Type} {P : Nat → Nat → α → β → Prop} {R : α → β → Prop} (hP : ∀ l h x y, P l h x y → l ≤ h) {lo hi : Nat} {la : List α} {lb : List β} (h : OwnC P lo hi la lb) (hR : ∀ l m x y, lo ≤ l → m ≤ hi → P l m x y → R x y) : All2 R la lb := by
  refine ⟨h.len, fun k x y hx hy => ?_⟩
  obtain ⟨l, m, h1, _, h3, h4, _⟩ := h.step hP k hx hy
  exact hR l m x y h1 h3 h4
/-- The blocks from lo up to hi stay. -/
structure Kpi (lo hi : Nat) (w w' : World) : Prop where
  size : w.heap.size ≤ w'.heap.size
  block : ∀ k, lo ≤ k → k < hi → k < w.heap.size → w'.heap[k]? = w.heap[k]?
theorem Kpi.of {lo hi : Nat} {w w' : World} (h : Below w.heap.size w w') : Kpi lo hi w w' := ⟨h.size, fun k _ _ hk => h.block k hk⟩
theorem Kpi.sub {lo hi lo' hi' : Nat} {w w' : World} (h : Kpi lo hi w w') (h1 : lo ≤ lo') (h2 : hi' ≤ hi) : Kpi lo' hi' w w' := ⟨h.size, fun k g1 g2 g3 => h.block k (Nat.le_trans h1 g1) (Nat.lt_of_lt_of_le g2 h2) g3⟩
theorem OwnSl.keepB {α : Type} {base e sz : Nat} {enc : α → List Value} {w w' : World} {v : Value} {ys : List α} (h : OwnSl base e sz enc w v ys) (hb : ∀ g, v.ownBlock = some g → base ≤ g → g < w.heap.size → w'.heap[g]? = w.heap[g]?) : OwnSl base e sz enc w' v ys := by
  refine ⟨h.1, ?_⟩
  obtain ⟨_, h | ⟨g, cap, cur, rfl, hg, hh, r⟩⟩ := h
  · exact Or.inl h
  · exact Or.inr ⟨g, cap, cur, rfl, hg, (hb g rfl hg (Array.getElem?_eq_some_iff.1 hh).1).trans hh, r⟩
/-- A slice with its block between lo and hi. -/
def OwnI {α : Type} (e sz : Nat) (enc : α → List Value) (w : World) (lo hi : Nat) (v : Value) (xs : List α) : Prop := OwnSl lo e sz enc w v xs ∧ (∀ x, v.ownBlock = some x → x < hi) ∧ lo ≤ hi
theorem OwnI.keep {α : Type} {e sz : Nat} {enc : α → List Value} {w w' : World} {lo hi : Nat} {v : Value} {xs : List α} (h : OwnI e sz enc w lo hi v xs) (hk : Kpi lo hi w w') : OwnI e sz enc w' lo hi v xs :=
  ⟨h.1.keepB (fun g h1 h2 h3 => hk.block g h2 (h.2.1 g h1) h3), h.2⟩
theorem OwnI.le {α : Type} {e sz : Nat} {enc : α → List Value} {w : World} : ∀ l h (v : Value) (xs : List α), OwnI e sz enc w l h v xs → l ≤ h := fun _ _ _ _ h => h.2.2
def PSp (w : World) (lo hi : Nat) (v : Value) (xs : List Sp) : Prop := OwnI 64 2 Sp.enc w lo hi v xs
theorem PSp.le {w : World} : ∀ l h (v : Value) (xs : List Sp), PSp w l h v xs → l ≤ h := OwnI.le
/-- A box of the call's own. -/
def OwnRw (w : World) (lo hi : Nat) (v : Value) (b : Bx) : Prop := ∃ vs mid, OwnI 65 1 enc1 w lo mid v vs ∧ OwnC (PSp w) mid hi vs b
theorem OwnRw.keep {w w' : World} {lo hi : Nat} {v : Value} {b : Bx} (h : OwnRw w lo hi v b) (hk : Kpi lo hi w w') : OwnRw w' lo hi v b := by
  obtain ⟨vs, mid, h1, h2⟩ := h
  have hm := OwnC.le PSp.le h2
  exact ⟨vs, mid, h1.keep (hk.sub (Nat.le_refl _) hm), OwnC.imp PSp.le h2 (fun l h x y g1 g2 g3 => OwnI.keep g3 (hk.sub (Nat.le_trans h1.2.2 g1) g2))⟩
theorem OwnRw.rws {w : World} {lo hi : Nat} {v : Value} {b : Bx} (h : OwnRw w lo hi v b) : Rws lo w v b := by
  obtain ⟨vs, mid, h1, h2⟩ := h
  exact ⟨vs, OwnSl.fr (sz := 1) (enc := enc1) (fun _ => rfl) h1.1, OwnC.all2 PSp.le h2 (fun l m x y g1 _ g3 => Sps.mono (OwnSl.fr (sz := 2) (enc := Sp.enc) (fun _ => rfl) g3.1) (Nat.le_trans h1.2.2 g1))⟩
theorem infoSl : (Tryd.prog.info? 65).map (fun i => (i.zero, i.size, i.bytes)) = some (some (.slice none 0 0), 1, 24) := by kernel_rfl
theorem infoFt : (Tryd.prog.info? 93).map (fun i => (i.zero, i.size, i.bytes)) = some (some (.agg #[.slice none 0 0, .bool false]), 2, 32) := by kernel_rfl
theorem set_rep {α : Type} (vs : List α) (n k : Nat) (z y : α) (hl : vs.length = k) (hk : k < n) : (vs ++ List.replicate (n - k) z).set k y = (vs ++ [y]) ++ List.replicate (n - (k + 1)) z := by
  rw [List.set_append_right _ _ (by omega), hl, Nat.sub_self, show n - k = (n - (k + 1)) + 1 from by omega, List.replicate_succ, List.set_cons_zero, List.append_assoc]
  rfl
theorem OwnI.mono {α : Type} {e sz : Nat} {enc : α → List Value} {w : World} {lo lo' hi : Nat} {v : Value} {xs : List α} (h : OwnI e sz enc w lo hi v xs) (hl : lo' ≤ lo) : OwnI e sz enc w lo' hi v xs :=
  ⟨OwnSl.mono h.1 hl, h.2.1, Nat.le_trans hl h.2.2⟩
theorem OwnRw.mono {w : World} {lo lo' hi hi' : Nat} {v : Value} {b : Bx} (h : OwnRw w lo hi v b) (hl : lo' ≤ lo) (hh : hi ≤ hi') : OwnRw w lo' hi' v b := by
  obtain ⟨vs, mid, h1, h2⟩ := h
  exact ⟨vs, mid, h1.mono hl, h2.hi hh⟩
def RetBx (b : Bx) (w : World) (e : Ending) (w' : World) : Prop := ∃ v, e = .returned (.agg #[v]) ∧ OwnRw w' w.heap.size w'.heap.size v b ∧ Below w.heap.size w w'
end Go.Proofs.YtfcbbahlhjdefaaDoor
namespace Go.Proofs.YtfcbbahlhjdefaaDoor
open Go.RowKit
theorem bvalid_four {b : Bx} (h : bvalid b = true) : b.length = 4 ∧ BOk b 4 := by
  unfold bvalid at h
  exact of_decide_eq_true h
set_option maxHeartbeats 1000000 in
theorem specPF_any (a b c d : Int) (n : Nat) (hn : n < 4) (hp : Pk.ok ⟨a, b, c, d⟩ = true) (w : World) :
    Calls Tryd.prog 57 #[.agg #[.int .i64 a, .int .i64 b, .int .i64 c, .int .i64 d], .int .i64 n] w fun e w' => e = .returned (.int .i64 (Pk.fld ⟨a, b, c, d⟩ n)) ∧ Below w.heap.size w w' := by
  have h3 : inB (n : Int) 0 3 = true := inB_true (by omega) (by omega)
  rcases (by omega : n = 0 ∨ n = 1 ∨ n = 2 ∨ n = 3) with rfl | rfl | rfl | rfl
  all_goals
    go_enter Tryd.func57, Tryd.ntmps57
    
    go_wp2_with fail; refine (specPV_b hp _).mono ?_; rintro e w1 ⟨rfl, hb1⟩; obtain ⟨hc1, hf1⟩ := bcell hb1; have hz1 := hb1.size; (try simp at hz1); (try have hz1_w_0 : w.heap.size < w1.heap.size := (by omega)); (try have hz1_w_1 : w.heap.size + 1 < w1.heap.size := (by omega)); (try have hz1_w_2 : w.heap.size + 2 < w1.heap.size := (by omega)); have k1 := ownCells hb1 w.heap.size (by simp)
    have hw1 : Below w.heap.size w w1 := by (repeat' (first | with_reducible exact Below.refl _ _ | with_reducible assumption | with_reducible refine Below.setCell ?_ ?_ _ | with_reducible refine Below.alloc ?_ ?_ _ | with_reducible refine Below.drew ?_ | with_reducible refine belDrewN ?_ _ | with_reducible refine Below.trans ?_ (Below.mono (by assumption) ?_) | omega | (simp; omega) | (simp; done)))
    clear hb1 hc1 hf1
    go_wp2_with (go_at_call 21; refine (l1In_b h3 _).mono ?_; rintro e w' ⟨rfl, rfl⟩)
    go_ret
    exact ⟨rfl, by (repeat' (first | with_reducible exact Below.refl _ _ | with_reducible assumption | with_reducible refine Below.setCell ?_ ?_ _ | with_reducible refine Below.alloc ?_ ?_ _ | with_reducible refine Below.drew ?_ | with_reducible refine belDrewN ?_ _ | with_reducible refine Below.trans ?_ (Below.mono (by assumption) ?_) | omega | (simp; omega) | (simp; done)))⟩
theorem fvalid_at {fs : List Ft} (h : fvalid fs = true) {k : Nat} {f : Ft} (hx : fs[k]? = some f) : bvalid f.box = true := by
  unfold fvalid at h
  rw [Bool.and_eq_true, List.all_eq_true] at h
  exact h.2 f (List.mem_of_getElem? hx)
theorem infoFl : (Tryd.prog.info? 87).map (fun i => (i.zero, i.size, i.bytes)) = some (some (.agg #[.slice none 0 0, .slice none 0 0, .slice none 0 0, .slice none 0 0, .bool false]), 5, 104) := by kernel_rfl
end Go.Proofs.YtfcbbahlhjdefaaDoor
