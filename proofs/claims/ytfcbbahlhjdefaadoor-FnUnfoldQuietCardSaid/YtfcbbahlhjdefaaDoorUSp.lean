/- Unfolding: the program's lists under way and what the writes keep of them. -/
import Derived.Test.YtfcbbahlhjdefaaDoorUSn
namespace Go.Proofs.YtfcbbahlhjdefaaDoor
open Go.RowKit
/-- Boxes as arrays of sets, in a list that no block of X holds, nor do their sets. -/
def SxV (X : Nat → Prop) (w : World) (v : Value) (bs : List Bx) : Prop := ∃ rs, SlV X 4 R4.enc w v rs ∧ All2 (fun (r : R4) b => All2 (SpV X w) [r.v0, r.v1, r.v2, r.v3] b) rs bs
theorem SxV.keep {X X' : Nat → Prop} {w w' : World} {v : Value} {bs : List Bx} (h : SxV X w v bs) (hz : w.heap.size ≤ w'.heap.size) (hk : ∀ k, k < w.heap.size → ¬ X k → w'.heap[k]? = w.heap[k]? ∧ ¬ X' k) : SxV X' w' v bs :=
  let ⟨rs, h1, h2⟩ := h
  ⟨rs, h1.keep hz hk, h2.mono (fun _ _ g => (All2.mono g (fun _ _ q => q.keep hz hk) : All2 _ _ _))⟩
theorem SxV.below {X : Nat → Prop} {w w' : World} {v : Value} {bs : List Bx} (h : SxV X w v bs) (hb : Below w.heap.size w w') : SxV X w' v bs := h.keep hb.size (fun k k1 k2 => ⟨hb.block k k1, k2⟩)
theorem SxV.sub {X X' : Nat → Prop} {w : World} {v : Value} {bs : List Bx} (h : SxV X w v bs) (hX : ∀ k, X' k → X k) : SxV X' w v bs :=
  let ⟨rs, h1, h2⟩ := h
  ⟨rs, h1.sub hX, h2.mono (fun _ _ g => (All2.mono g (fun _ _ q => q.sub hX) : All2 _ _ _))⟩
theorem SxV.issx {X : Nat → Prop} {w : World} {v : Value} {bs : List Bx} (h : SxV X w v bs) : IssX X w v bs :=
  let ⟨rs, h1, h2⟩ := h
  ⟨rs, h1.1, h2⟩
theorem SxV.form {X : Nat → Prop} {w : World} {v : Value} {bs : List Bx} (h : SxV X w v bs) : ∃ a cap, v = .slice a bs.length cap ∧ bs.length ≤ cap ∧ cap ≤ maxLen := h.issx.form
theorem SxV.older {P X : Nat → Prop} {w0 w : World} {v : Value} {bs : List Bx} (h : SxV X w0 v bs) (hb : Below w0.heap.size w0 w) (hP : ∀ k, P k → w0.heap.size ≤ k ∨ X k) : SxV P w v bs :=
  h.keep hb.size (fun k k1 k2 => ⟨hb.block k k1, fun hk => (hP k hk).elim (fun h => by omega) k2⟩)
theorem SxV.tw {P : Nat} {ov ov' : Value} {Y : Nat → Prop} {w w' : World} {v : Value} {bs : List Bx} (h : SxV (ZS P ov Y) w v bs) (k : Tw P ov ov' w w') : SxV (ZS P ov' Y) w' v bs :=
  h.keep k.1 (fun z z1 z2 => by
    obtain ⟨e, n⟩ := k.2 z z1 (fun e => z2 (.inl e)) (fun e => z2 (.inr (.inl e)))
    refine ⟨e, fun hz => ?_⟩
    rcases hz with hz | hz | hz
    · exact z2 (.inl hz)
    · exact n hz
    · exact z2 (.inr (.inr hz)))
/-- Nothing lies in the empty list. -/
theorem SxV.nil (X : Nat → Prop) (w : World) : SxV X w (.slice none 0 0) [] :=
  ⟨[], ⟨⟨none, 0, rfl, Nat.le_refl _, Nat.zero_le _, fun k x hk => by simp at hk⟩, fun q n c e => by simp at e⟩, All2.nil⟩
/-- A list of the call's own that lies in no block of X. -/
def LN (X : Nat → Prop) (lo : Nat) (w : World) (v : Value) (bs : List Bx) : Prop := NX X lo w v bs ∧ ∀ z, v.ownBlock = some z → ¬ X z
theorem LN.form {X : Nat → Prop} {lo : Nat} {w : World} {v : Value} {bs : List Bx} (h : LN X lo w v bs) : ∃ a c, v = .slice a bs.length c := h.1.form
theorem LN.lt {X : Nat → Prop} {lo : Nat} {w : World} {v : Value} {bs : List Bx} (h : LN X lo w v bs) : ∀ z, v.ownBlock = some z → lo ≤ z ∧ z < w.heap.size := h.1.lt
theorem LN.below {X : Nat → Prop} {lo : Nat} {w w' : World} {v : Value} {bs : List Bx} (h : LN X lo w v bs) (hb : Below w.heap.size w w') : LN X lo w' v bs := ⟨h.1.below hb, h.2⟩
theorem LN.v {X : Nat → Prop} {lo : Nat} {w : World} {v : Value} {bs : List Bx} (h : LN X lo w v bs) : SxV X w v bs := by
  obtain ⟨⟨vs, h1, h2⟩, hx⟩ := h
  refine ⟨vs, ⟨SlFr.mono (OwnSl.fr (sz := 4) (enc := R4.enc) (fun _ => rfl) h1) (Nat.zero_le _), fun q n c e hne hp => ?_⟩, h2.mono (fun _ _ g => (All2.mono g (fun _ _ p => p.sub (fun k hk => .inr hk)) : All2 _ _ _))⟩
  rcases OwnSl.form h1 with ⟨_, h'⟩ | ⟨g, c', h', hg, _⟩
  · exact hne h'
  · rw [e] at h'
    obtain ⟨e1, -, -⟩ := Value.slice.inj h'
    cases e1
    exact hx g (by rw [e]; rfl) hp
theorem LN.nil {X : Nat → Prop} {lo : Nat} {w : World} : LN X lo w (.slice none 0 0) [] :=
  ⟨⟨[], OwnSl.nil _ _ _ _ _, All2.nil⟩, fun z hz => by simp [Value.ownBlock] at hz⟩
theorem LN.keepX {X X' : Nat → Prop} {lo : Nat} {w w' : World} {v : Value} {bs : List Bx} (h : LN X lo w v bs) (hz : w.heap.size ≤ w'.heap.size) (hk : ∀ k, k < w.heap.size → ¬ X k → w'.heap[k]? = w.heap[k]? ∧ ¬ X' k) : LN X' lo w' v bs := by
  refine ⟨h.1.keepX hz (fun k k1 k2 => ?_) (fun k k1 k2 => (hk k k1 k2).2), fun z hz2 => (hk z (h.lt z hz2).2 (h.2 z hz2)).2⟩
  rcases k2 with e | e
  · exact (hk k k1 (h.2 k e.symm)).1
  · exact (hk k k1 e).1
theorem LN.sub {X X' : Nat → Prop} {lo : Nat} {w : World} {v : Value} {bs : List Bx} (h : LN X lo w v bs) (hX : ∀ k, X' k → X k) : LN X' lo w v bs := h.keepX (Nat.le_refl _) (fun k _ k2 => ⟨rfl, fun e => k2 (hX k e)⟩)
theorem LN.tw {P lo : Nat} {ov ov' : Value} {Y : Nat → Prop} {w w' : World} {v : Value} {bs : List Bx} (h : LN (ZS P ov Y) lo w v bs) (k : Tw P ov ov' w w') : LN (ZS P ov' Y) lo w' v bs :=
  h.keepX k.1 (fun z z1 z2 => by
    obtain ⟨e, n⟩ := k.2 z z1 (fun e => z2 (.inl e)) (fun e => z2 (.inr (.inl e)))
    refine ⟨e, fun hq => ?_⟩
    rcases hq with hq | hq | hq
    · exact z2 (.inl hq)
    · exact n hq
    · exact z2 (.inr (.inr hq)))
theorem LN.grow {v v' : Value} {w w' : World} {X : Nat → Prop} {lo : Nat} {u : Value} {bs : List Bx} (h : LN (fun k => some k = v.ownBlock ∨ X k) lo w u bs) (k : Gr v v' w w') : LN (fun k => some k = v'.ownBlock ∨ X k) lo w' u bs :=
  h.keepX k.g.size (fun z z1 z2 => ⟨k.g.block z z1 (fun e => z2 (.inl e)), fun e => by
    rcases e with e | e
    · rcases k.at' z e.symm with e | e
      · exact z2 (.inl e.symm)
      · omega
    · exact z2 (.inr e)⟩)
/-- Boxes are put behind boxes. -/
theorem LN.append {X : Nat → Prop} {lo : Nat} {w : World} {v vx : Value} {bs cs : List Bx} (ty : TypeId) (ho : LN X lo w v bs) (hs : IssX (fun k => some k = v.ownBlock ∨ X k) w vx cs) (hb : bs.length + cs.length ≤ 1000000) (hlo : lo ≤ w.heap.size) (hX : ∀ k, X k → k < w.heap.size) :
    ∃ v' w', (Builtin.append_ #[81, 81] ty #[v, vx]).run Tryd.prog w = .ok v' w' ∧ LN X lo w' v' (bs ++ cs) ∧ Gr v v' w w' ∧ Below lo w w' := by
  obtain ⟨v', w', hrun, h1, hgr, hat⟩ := nx_append ty ho.1 hs hb hlo
  refine ⟨v', w', hrun, ⟨h1, fun z hz hx => ?_⟩, ⟨hgr, fun z hz => (hat z hz).imp id (fun e => by omega)⟩, (Below.refl _ _).grown hgr hlo (fun z hz => (ho.lt z hz).1)⟩
  rcases hat z hz with h | h
  · exact ho.2 z h hx
  · have := hX z hx
    omega
/-- The program's rules that come out, in a list of its own. -/
def FdX (X : Nat → Prop) (lo : Nat) (w : World) (v : Value) (fs : List Ft) : Prop :=
  ∃ rs, OwnSl lo 87 5 R5.enc w v rs ∧ All2 (fun (r : R5) (f : Ft) => All2 (SpV (fun k => some k = v.ownBlock ∨ X k) w) [r.v0, r.v1, r.v2, r.v3] f.box ∧ r.acc = f.acc) rs fs
theorem FdX.keepX {X X' : Nat → Prop} {lo : Nat} {w w' : World} {v : Value} {fs : List Ft} (h : FdX X lo w v fs) (hz : w.heap.size ≤ w'.heap.size) (ho : ∀ z, v.ownBlock = some z → w'.heap[z]? = w.heap[z]?) (hk : ∀ k, k < w.heap.size → ¬ (some k = v.ownBlock ∨ X k) → w'.heap[k]? = w.heap[k]? ∧ ¬ X' k) : FdX X' lo w' v fs := by
  obtain ⟨rs, h1, h2⟩ := h
  refine ⟨rs, OwnSl.keepB h1 (fun z z1 _ _ => ho z z1), h2.mono (fun _ _ g => ⟨(All2.mono g.1 (fun _ _ q => q.keep hz (fun k k1 k2 => ⟨(hk k k1 k2).1, fun e => ?_⟩)) : All2 _ _ _), g.2⟩)⟩
  rcases e with e | e
  · exact k2 (.inl e)
  · exact (hk k k1 k2).2 e
theorem FdX.lt {X : Nat → Prop} {lo : Nat} {w : World} {v : Value} {fs : List Ft} (h : FdX X lo w v fs) : ∀ z, v.ownBlock = some z → lo ≤ z ∧ z < w.heap.size := by
  obtain ⟨rs, h1, _⟩ := h
  exact fun z hz => World.ownsRow.lt h1 z hz
theorem FdX.form {X : Nat → Prop} {lo : Nat} {w : World} {v : Value} {fs : List Ft} (h : FdX X lo w v fs) : ∃ a c, v = .slice a fs.length c := by
  obtain ⟨rs, h1, h2⟩ := h
  rw [← h2.1]
  rcases OwnSl.form h1 with ⟨h, h'⟩ | ⟨g, c, h, _⟩
  · exact ⟨_, _, by rw [h', h]; rfl⟩
  · exact ⟨_, _, h⟩
theorem FdX.nil {X : Nat → Prop} {lo : Nat} {w : World} : FdX X lo w (.slice none 0 0) [] := ⟨[], OwnSl.nil _ _ _ _ _, All2.nil⟩
theorem fd_append {X : Nat → Prop} {lo : Nat} {w : World} {v vx : Value} {fs gs : List Ft} {ws : List R5} (ty : TypeId) (ho : FdX X lo w v fs) (hs : SlAt 5 R5.enc w vx ws) (hg : All2 (fun (r : R5) (f : Ft) => All2 (SpV (fun k => some k = v.ownBlock ∨ X k) w) [r.v0, r.v1, r.v2, r.v3] f.box ∧ r.acc = f.acc) ws gs) (hb : fs.length + gs.length ≤ 1000000) (hlo : lo ≤ w.heap.size) :
    ∃ v' w', (Builtin.append_ #[49, 49] ty #[v, vx]).run Tryd.prog w = .ok v' w' ∧ FdX X lo w' v' (fs ++ gs) ∧ w.grownBy w' v.ownBlock ∧ ∀ z, v'.ownBlock = some z → v.ownBlock = some z ∨ z = w.heap.size := by
  obtain ⟨i0, hi, hy0, hy1, hy2⟩ := info_parts infoFl
  obtain ⟨rs, g1, g2⟩ := ho
  have e1 := g2.1
  have e2 := hg.1
  have hone : ∀ u ∈ ws.flatMap R5.enc, u.oneCell' = true := fun u hu => by
    obtain ⟨r, hr, hu2⟩ := List.mem_flatMap.1 hu
    obtain ⟨k, hk⟩ := List.getElem?_of_mem hr
    obtain ⟨f, hf⟩ : ∃ f, gs[k]? = some f := ⟨_, List.getElem?_eq_getElem (by rw [← e2]; exact (List.getElem?_eq_some_iff.1 hk).1)⟩
    obtain ⟨F0, G0, H0, F1, G1, H1, F2, G2, H2, F3, G3, H3, h0, h1, h2, h3⟩ := sl4_form ((hg.2 k r f hk hf).1.mono (fun _ _ g => g.1))
    simp only [R5.enc, List.mem_cons, List.not_mem_nil, or_false] at hu2
    rcases hu2 with rfl | rfl | rfl | rfl | rfl
    · rw [h0]; rfl
    · rw [h1]; rfl
    · rw [h2]; rfl
    · rw [h3]; rfl
    · rfl
  obtain ⟨v', w', hrun, hown, hgr, hat⟩ := own_append_all (sz := 5) (enc := R5.enc) (by omega) (fun _ => rfl) (P := Tryd.prog) 49 ty 87 i0 _ 104 Tryd.underlying49 hi hy0 hy1 hy2 rfl hone g1 hs (by omega) (by simp only [maxLen]; omega) hlo
  refine ⟨v', w', hrun, ⟨rs ++ ws, hown, ?_⟩, hgr, hat⟩
  have key : ∀ k, k < w.heap.size → ¬ (some k = v.ownBlock ∨ X k) → w'.heap[k]? = w.heap[k]? ∧ ¬ (some k = v'.ownBlock ∨ X k) := fun k k1 k2 => ⟨hgr.block k k1 (fun e => k2 (.inl e)), fun e => by
    rcases e with e | e
    · rcases hat k e.symm with h | h
      · exact k2 (.inl h.symm)
      · omega
    · exact k2 (.inr e)⟩
  have f1 := g2.mono (S := fun (r : R5) (f : Ft) => All2 (SpV (fun k => some k = v'.ownBlock ∨ X k) w') [r.v0, r.v1, r.v2, r.v3] f.box ∧ r.acc = f.acc) (fun _ _ g => ⟨g.1.mono (fun _ _ q => q.keep hgr.size key), g.2⟩)
  have f2 := hg.mono (S := fun (r : R5) (f : Ft) => All2 (SpV (fun k => some k = v'.ownBlock ∨ X k) w') [r.v0, r.v1, r.v2, r.v3] f.box ∧ r.acc = f.acc) (fun _ _ g => ⟨g.1.mono (fun _ _ q => q.keep hgr.size key), g.2⟩)
  refine ⟨by rw [List.length_append, List.length_append, f1.1, f2.1], fun k x y hx hy => ?_⟩
  by_cases hk : k < rs.length
  · rw [List.getElem?_append_left hk] at hx
    rw [List.getElem?_append_left (by rw [← f1.1]; exact hk)] at hy
    exact f1.2 k x y hx hy
  · rw [List.getElem?_append_right (by omega)] at hx
    rw [List.getElem?_append_right (by rw [← f1.1]; omega), ← f1.1] at hy
    exact f2.2 _ x y hx hy
/-- What the block U of an unfolder holds. -/
structure Ui (S U : Nat) (Y : Nat → Prop) (cv : Value) (q : Bool) (w : World) (ov : Value) (out : List Ft) : Prop where
  lt : U < w.heap.size
  s : S ≤ U
  c0 : w.cell? ⟨U, 0, none⟩ = some cv
  c1 : w.cell? ⟨U, 1, none⟩ = some ov
  c2 : w.cell? ⟨U, 2, none⟩ = some (.bool q)
  f1 : w.frozen? ⟨U, 1, none⟩ = false
  f2 : w.frozen? ⟨U, 2, none⟩ = false
  o : FdX (fun k => k = U ∨ Y k) S w ov out
  op : ∀ z, ov.ownBlock = some z → z ≠ U ∧ ¬ Y z
theorem Ui.older {S U : Nat} {Y Y' : Nat → Prop} {cv : Value} {q : Bool} {w w' : World} {ov : Value} {out : List Ft} (h : Ui S U Y cv q w ov out) (hb : Below w.heap.size w w') (hY : ∀ k, Y' k → Y k ∨ w.heap.size ≤ k) : Ui S U Y' cv q w' ov out :=
  ⟨Nat.lt_of_lt_of_le h.lt hb.size, h.s, (hb.cell (p := ⟨U, 0, none⟩) h.lt).trans h.c0, (hb.cell (p := ⟨U, 1, none⟩) h.lt).trans h.c1, (hb.cell (p := ⟨U, 2, none⟩) h.lt).trans h.c2, (hb.frozen (p := ⟨U, 1, none⟩) h.lt).trans h.f1, (hb.frozen (p := ⟨U, 2, none⟩) h.lt).trans h.f2,
   h.o.keepX hb.size (fun z hz => hb.block z (h.o.lt z hz).2) (fun k k1 k2 => ⟨hb.block k k1, fun hk => by
    rcases hk with e | e
    · exact k2 (.inr (.inl e))
    · rcases hY k e with e | e
      · exact k2 (.inr (.inr e))
      · omega⟩), fun z hz => ⟨(h.op z hz).1, fun hy => by
    rcases hY z hy with e | e
    · exact (h.op z hz).2 e
    · have := (h.o.lt z hz).2
      omega⟩⟩
theorem Ui.below {S U : Nat} {Y : Nat → Prop} {cv : Value} {q : Bool} {w w' : World} {ov : Value} {out : List Ft} (h : Ui S U Y cv q w ov out) (hb : Below w.heap.size w w') : Ui S U Y cv q w' ov out := h.older hb (fun _ hk => .inl hk)
theorem Ui.sub {S U : Nat} {Y Y' : Nat → Prop} {cv : Value} {q : Bool} {w : World} {ov : Value} {out : List Ft} (h : Ui S U Y cv q w ov out) (hY : ∀ k, Y' k → Y k) : Ui S U Y' cv q w ov out := h.older (Below.refl _ _) (fun k hk => .inl (hY k hk))
/-- The mark is set. -/
theorem Ui.over {S U : Nat} {Y : Nat → Prop} {cv : Value} {q : Bool} {w : World} {ov : Value} {out : List Ft} (h : Ui S U Y cv q w ov out) : Ui S U Y cv true (w.setCell ⟨U, 2, none⟩ (.bool true)) ov out ∧ Tw U ov ov w (w.setCell ⟨U, 2, none⟩ (.bool true)) ∧ Below S w (w.setCell ⟨U, 2, none⟩ (.bool true)) := by
  have hk : ∀ k, k ≠ U → (w.setCell ⟨U, 2, none⟩ (.bool true)).heap[k]? = w.heap[k]? := fun k k1 => Below.heap_setCell _ _ _ _ k1
  have hc : ∀ j u, j ≠ 2 → w.cell? ⟨U, j, none⟩ = some u → (w.setCell ⟨U, 2, none⟩ (.bool true)).cell? ⟨U, j, none⟩ = some u := fun j u hj hu => by
    rw [World.cell?_setCell_other _ _ _ _ (by intro e; exact hj (Addr.mk.inj e).2.1.symm)]; exact hu
  refine ⟨⟨by simpa using h.lt, h.s, hc 0 _ (by decide) h.c0, hc 1 _ (by decide) h.c1, World.cell?_setCell_same' _ _ _ (by rw [h.c2]; rfl), by rw [World.frozen?_setCell]; exact h.f1, by rw [World.frozen?_setCell]; exact h.f2, h.o.keepX (by simp) (fun z hz => hk z (h.op z hz).1) (fun k k1 k2 => ⟨hk k (fun e => k2 (.inr (.inl e))), fun e => k2 (.inr e)⟩), h.op⟩, ⟨by simp, fun k k1 k2 k3 => ⟨hk k k2, k3⟩⟩, (Below.refl _ _).setCell h.s _⟩
/-- A rule is put behind those that come out. -/
theorem Ui.push {S U : Nat} {Y : Nat → Prop} {cv : Value} {q : Bool} {w : World} {ov vx v0 v1 v2 v3 : Value} {acc : Bool} {out : List Ft} {b : Bx} (ty : TypeId) (h : Ui S U Y cv q w ov out) (hx : SlAt 5 R5.enc w vx [⟨v0, v1, v2, v3, acc⟩]) (hs : All2 (SpV (ZS U ov Y) w) [v0, v1, v2, v3] b) (hb : out.length ≤ 999999) (hS : S ≤ w.heap.size) (hY : ∀ k, Y k → k < w.heap.size) :
    ∃ v' w', (Builtin.append_ #[49, 49] ty #[ov, vx]).run Tryd.prog w = .ok v' w' ∧ w'.cell? ⟨U, 1, none⟩ = some ov ∧ w'.frozen? ⟨U, 1, none⟩ = false ∧ Ui S U Y cv q (w'.setCell ⟨U, 1, none⟩ v') v' (out ++ [⟨b, acc⟩]) ∧ Tw U ov v' w (w'.setCell ⟨U, 1, none⟩ v') ∧ Below S w (w'.setCell ⟨U, 1, none⟩ v') := by
  have hPo : some U ≠ ov.ownBlock := fun e => (h.op U e.symm).1 rfl
  obtain ⟨v', w', hrun, hF, hgr, hat⟩ := fd_append (X := fun k => k = U ∨ Y k) (gs := [⟨b, acc⟩]) ty h.o hx ((All2.nil).snoc ⟨hs.mono (fun _ _ g => g.sub (fun k hk => by
    rcases hk with e | e | e
    · exact .inr (.inl e)
    · exact .inl e
    · exact .inr (.inr e))), rfl⟩) (by simp; omega) hS
  have hbl : w'.heap[U]? = w.heap[U]? := hgr.block U h.lt hPo
  have hz := hgr.size
  have hop : ∀ z, v'.ownBlock = some z → z ≠ U ∧ ¬ Y z := fun z hz2 => by
    rcases hat z hz2 with e | e
    · exact h.op z e
    · have := h.lt
      exact ⟨by omega, fun hy => by have := hY z hy; omega⟩
  have hk : ∀ k, k ≠ U → (w'.setCell ⟨U, 1, none⟩ v').heap[k]? = w'.heap[k]? := fun k k1 => Below.heap_setCell _ _ _ _ k1
  have cc : ∀ j u, w.cell? ⟨U, j, none⟩ = some u → w'.cell? ⟨U, j, none⟩ = some u := fun j u hu => (World.cell?_of_block (a := ⟨U, j, none⟩) hbl).trans hu
  have hc : ∀ j u, j ≠ 1 → w.cell? ⟨U, j, none⟩ = some u → (w'.setCell ⟨U, 1, none⟩ v').cell? ⟨U, j, none⟩ = some u := fun j u hj hu => by
    rw [World.cell?_setCell_other _ _ _ _ (by intro e; exact hj (Addr.mk.inj e).2.1.symm)]; exact cc j u hu
  refine ⟨v', w', hrun, cc 1 _ h.c1, (World.frozen?_of_block (a := ⟨U, 1, none⟩) hbl).trans h.f1,
    ⟨by simp; exact Nat.lt_of_lt_of_le h.lt hz, h.s, hc 0 _ (by decide) h.c0, World.cell?_setCell_same' _ _ _ (by rw [cc 1 _ h.c1]; rfl), hc 2 _ (by decide) h.c2, by rw [World.frozen?_setCell]; exact (World.frozen?_of_block (a := ⟨U, 1, none⟩) hbl).trans h.f1, by rw [World.frozen?_setCell]; exact (World.frozen?_of_block (a := ⟨U, 2, none⟩) hbl).trans h.f2,
      hF.keepX (by simp) (fun z hz => hk z (hop z hz).1) (fun k k1 k2 => ⟨hk k (fun e => k2 (.inr (.inl e))), fun e => k2 (.inr e)⟩), hop⟩,
    ⟨by simpa using hz, fun k k1 k2 k3 => ⟨?_, fun e => ?_⟩⟩, ((Below.refl _ _).grown hgr hS (fun z hz => (h.o.lt z hz).1)).setCell h.s _⟩
  · rw [hk k k2]
    exact hgr.block k k1 k3
  · rcases hat k e.symm with h1 | h1
    · exact k3 h1.symm
    · omega
theorem ZS.ltU {S U : Nat} {Y : Nat → Prop} {cv : Value} {q : Bool} {w : World} {ov : Value} {out : List Ft} (h : Ui S U Y cv q w ov out) {Y' : Nat → Prop} (hY : ∀ k, Y' k → k < w.heap.size) : ∀ k, ZS U ov Y' k → k < w.heap.size := by
  intro k hk
  rcases hk with e | e | e
  · rw [e]; exact h.lt
  · exact (h.o.lt k e.symm).2
  · exact hY k e
end Go.Proofs.YtfcbbahlhjdefaaDoor
