/- Unfolding: lists under way and what the writes keep of them. -/
import Derived.Test.YtfcbbahlhjdefaaGreatDoorRgT
import Derived.Test.YtfcbbahlhjdefaaGreatDoorUfP
import Derived.Test.YtfcbbahlhjdefaaGreatDoorFtQ
namespace Go.Proofs.YtfcbbahlhjdefaaGreatDoor
open Go.RowKit
/-- A list of boxes of the call's own, that lies in no block of X. -/
def LX (X : Nat → Prop) (lo : Nat) (w : World) (v : Value) (bs : List Bx) : Prop := BxX X lo w v bs ∧ ∀ z, v.ownBlock = some z → ¬ X z
theorem BxX.lt {X : Nat → Prop} {lo : Nat} {w : World} {v : Value} {bs : List Bx} (h : BxX X lo w v bs) : ∀ z, v.ownBlock = some z → lo ≤ z ∧ z < w.heap.size := by
  obtain ⟨vs, h1, _⟩ := h
  exact fun z hz => World.ownsRow.lt h1 z hz
theorem BxX.keepX {X X' : Nat → Prop} {lo : Nat} {w w' : World} {v : Value} {bs : List Bx} (h : BxX X lo w v bs) (hz : w.heap.size ≤ w'.heap.size) (hv : ∀ z, v.ownBlock = some z → w'.heap[z]? = w.heap[z]?)
    (hk : ∀ k, k < w.heap.size → ¬ (some k = v.ownBlock ∨ X k) → w'.heap[k]? = w.heap[k]? ∧ ¬ (some k = v.ownBlock ∨ X' k)) : BxX X' lo w' v bs := by
  obtain ⟨vs, h1, h2⟩ := h
  exact ⟨vs, OwnSl.keepB h1 (fun z z1 _ _ => hv z z1), h2.mono (fun _ _ g => g.keep hz hk)⟩
theorem LX.form {X : Nat → Prop} {lo : Nat} {w : World} {v : Value} {bs : List Bx} (h : LX X lo w v bs) : ∃ a c, v = .slice a bs.length c := h.1.form
theorem LX.below {X : Nat → Prop} {lo : Nat} {w w' : World} {v : Value} {bs : List Bx} (h : LX X lo w v bs) (hb : Below w.heap.size w w') : LX X lo w' v bs := ⟨h.1.below hb, h.2⟩
theorem LX.v {X : Nat → Prop} {lo : Nat} {w : World} {v : Value} {bs : List Bx} (h : LX X lo w v bs) : BxsV X w v bs := by
  obtain ⟨⟨vs, h1, h2⟩, hx⟩ := h
  refine ⟨vs, ⟨SlFr.mono (OwnSl.fr (sz := 1) (enc := enc1) (fun _ => rfl) h1) (Nat.zero_le _), fun q n c e hne hp => ?_⟩, h2.mono (fun _ _ g => g.sub (fun k hk => .inr hk))⟩
  rcases OwnSl.form h1 with ⟨_, h'⟩ | ⟨g, c', h', hg, _⟩
  · exact hne h'
  · rw [e] at h'
    obtain ⟨e1, -, -⟩ := Value.slice.inj h'
    cases e1
    exact hx g (by rw [e]; rfl) hp
theorem LX.nil {X : Nat → Prop} {base : Nat} {w : World} (h : base ≤ w.heap.size) (hX : ∀ k, X k → k < w.heap.size) : LX X base (w.alloc (.cells #[] 41)) (.slice (some ⟨w.heap.size, 0, none⟩) 0 0) [] :=
  ⟨⟨[], litOwn 41 1 enc1 h, All2.nil⟩, fun z hz hx => by
    have : z = w.heap.size := by simpa [Value.ownBlock] using hz.symm
    have := hX z hx
    omega⟩
theorem LX.sub {X X' : Nat → Prop} {lo : Nat} {w : World} {v : Value} {bs : List Bx} (h : LX X lo w v bs) (hX : ∀ k, X' k → X k) : LX X' lo w v bs := by
  obtain ⟨⟨vs, h1, h2⟩, hx⟩ := h
  exact ⟨⟨vs, h1, h2.mono (fun _ _ g => g.sub (fun k hk => hk.imp id (hX k)))⟩, fun z hz hp => hx z hz (hX z hp)⟩
theorem BxsV.sub {X X' : Nat → Prop} {w : World} {v : Value} {bs : List Bx} (h : BxsV X w v bs) (hX : ∀ k, X' k → X k) : BxsV X' w v bs :=
  let ⟨vs, h1, h2⟩ := h
  ⟨vs, h1.sub hX, h2.mono (fun _ _ g => g.sub hX)⟩
theorem BxsV.older {P X : Nat → Prop} {w0 w : World} {v : Value} {bs : List Bx} (h : BxsV X w0 v bs) (hb : Below w0.heap.size w0 w) (hP : ∀ k, P k → w0.heap.size ≤ k ∨ X k) : BxsV P w v bs :=
  h.keep hb.size (fun k k1 k2 => ⟨hb.block k k1, fun hk => (hP k hk).elim (fun h => by omega) k2⟩)
/-- Boxes are put behind boxes. -/
theorem LX.append {X : Nat → Prop} {lo : Nat} {w : World} {v vx : Value} {bs cs : List Bx} (ty : TypeId) (ho : LX X lo w v bs) (hs : BxsV (fun k => some k = v.ownBlock ∨ X k) w vx cs) (hb : bs.length + cs.length ≤ 1000000) (hlo : lo ≤ w.heap.size) (hX : ∀ k, X k → k < w.heap.size) :
    ∃ v' w', (Builtin.append_ #[35, 35] ty #[v, vx]).run Tryz.prog w = .ok v' w' ∧ LX X lo w' v' (bs ++ cs) ∧ w.grownBy w' v.ownBlock ∧ (∀ z, v'.ownBlock = some z → v.ownBlock = some z ∨ z = w.heap.size) ∧ Below lo w w' := by
  obtain ⟨i0, hi, hy0, hy1, hy2⟩ := info_parts infoBx
  obtain ⟨⟨vs, g1, g2⟩, gx⟩ := ho
  obtain ⟨ws, k1, k2⟩ := hs
  have e1 := g2.1
  have e2 := k2.1
  have hone : ∀ u ∈ ws.flatMap enc1, u.oneCell' = true := fun u hu => by
    obtain ⟨r, hr, hu2⟩ := List.mem_flatMap.1 hu
    obtain ⟨k, hk⟩ := List.getElem?_of_mem hr
    obtain ⟨bx, hbx⟩ : ∃ bx, cs[k]? = some bx := ⟨_, List.getElem?_eq_getElem (by rw [← e2]; exact (List.getElem?_eq_some_iff.1 hk).1)⟩
    obtain ⟨a, c, rfl, -, -⟩ := (k2.2 k r bx hk hbx).rws.form
    simp only [enc1, List.mem_cons, List.not_mem_nil, or_false] at hu2
    subst hu2
    rfl
  obtain ⟨v', w', hrun, hown, hgr, hat⟩ := own_append_all (sz := 1) (enc := enc1) (by omega) (fun _ => rfl) (P := Tryz.prog) 35 ty 41 i0 _ 24 Tryz.underlying35 hi hy0 hy1 hy2 rfl hone g1 (SlFr.at k1.1) (by omega) (by simp only [maxLen]; omega) hlo
  refine ⟨v', w', hrun, ⟨BxX.push (H := w.heap.size) g2 k2 (grown_self hgr) (fun z hz => hat z hz) (Nat.le_refl _) hown, fun z hz hx => ?_⟩, hgr, hat, (Below.refl _ _).grown hgr hlo (fun z hz => (World.ownsRow.lt g1 z hz).1)⟩
  rcases hat z hz with h | h
  · exact gx z h hx
  · have := hX z hx
    omega
theorem LX.append1 {X : Nat → Prop} {lo : Nat} {w : World} {v s : Value} {bs : List Bx} {b : Bx} (ty : TypeId) (ho : LX X lo w v bs) (hs : RwV (fun k => some k = v.ownBlock ∨ X k) w s b) (hb : bs.length ≤ 999999) (hlo : lo ≤ w.heap.size) (hX : ∀ k, X k → k < w.heap.size) :
    ∃ v' w', (Builtin.append_ #[35, 35] ty #[v, .slice (some ⟨w.heap.size, 0, none⟩) 1 1]).run Tryz.prog (w.alloc (.cells #[s] 41)) = .ok v' w' ∧ LX X lo w' v' (bs ++ [b]) ∧ (w.alloc (.cells #[s] 41)).grownBy w' v.ownBlock ∧ (∀ z, v'.ownBlock = some z → v.ownBlock = some z ∨ w.heap.size < z) ∧ Below lo w w' := by
  have hal : Below w.heap.size w (w.alloc (.cells #[s] 41)) := (Below.refl _ _).alloc (Nat.le_refl _) _
  have hz := hal.size
  have hown := ho.1.lt
  have hvs : BxsV (fun k => some k = v.ownBlock ∨ X k) (w.alloc (.cells #[s] 41)) (.slice (some ⟨w.heap.size, 0, none⟩) 1 1) [b] := by
    refine ⟨[s], ⟨SlFr.of (litBx_at w s 41), fun q n c e _ hp => ?_⟩, (All2.nil).snoc (hs.below hal)⟩
    obtain ⟨e1, -, -⟩ := Value.slice.inj e
    cases e1
    rcases hp with hp | hp
    · have := hown _ hp.symm
      simp only at this
      omega
    · have := hX _ hp
      simp only at this
      omega
  obtain ⟨v', w', h1, h2, h3, h4, h5⟩ := LX.append ty (ho.below hal) hvs (by simp; omega) (by omega) (fun k hk => by have := hX k hk; omega)
  exact ⟨v', w', h1, h2, h3, fun z hz2 => (h4 z hz2).imp id (fun e => by rw [e]; simp), (hal.mono hlo).trans h5⟩
/-- Two lists that grow side by side. -/
structure Two (X : Nat → Prop) (lo : Nat) (w : World) (u v : Value) (F M : List Bx) : Prop where
  a : LX (fun k => some k = v.ownBlock ∨ X k) lo w u F
  b : LX (fun k => some k = u.ownBlock ∨ X k) lo w v M
theorem Two.below {X : Nat → Prop} {lo : Nat} {w w' : World} {u v : Value} {F M : List Bx} (h : Two X lo w u v F M) (hb : Below w.heap.size w w') : Two X lo w' u v F M := ⟨h.a.below hb, h.b.below hb⟩
theorem Two.swap {X : Nat → Prop} {lo : Nat} {w : World} {u v : Value} {F M : List Bx} (h : Two X lo w u v F M) : Two X lo w v u M F := ⟨h.b, h.a⟩
/-- The first has grown. -/
theorem Two.grown {X : Nat → Prop} {lo : Nat} {w w' : World} {u u' v : Value} {F F' M : List Bx} (h : Two X lo w u v F M) (hl : LX (fun k => some k = v.ownBlock ∨ X k) lo w' u' F') (hg : w.grownBy w' u.ownBlock) (hat : ∀ z, u'.ownBlock = some z → u.ownBlock = some z ∨ w.heap.size ≤ z) : Two X lo w' u' v F' M := by
  have hX : ∀ z, v.ownBlock = some z → some z ≠ u.ownBlock := fun z hz e => h.b.2 z hz (.inl e)
  refine ⟨hl, h.b.1.keepX hg.size (fun z hz => hg.block z (h.b.1.lt z hz).2 (hX z hz)) (fun k k1 k2 => ⟨hg.block k k1 (fun e => k2 (.inr (.inl e))), fun e => ?_⟩), fun z hz e => ?_⟩
  · rcases e with e | e | e
    · exact k2 (.inl e)
    · rcases hat k e.symm with h1 | h1
      · exact k2 (.inr (.inl h1.symm))
      · omega
    · exact k2 (.inr (.inr e))
  · rcases e with e | e
    · rcases hat z e.symm with h1 | h1
      · exact hX z hz h1.symm
      · have := (h.b.1.lt z hz).2
        omega
    · exact h.b.2 z hz (.inr e)
theorem Two.push {X : Nat → Prop} {lo : Nat} {w : World} {u v s : Value} {F M : List Bx} {b : Bx} (ty : TypeId) (h : Two X lo w u v F M) (hs : RwV (fun k => some k = u.ownBlock ∨ some k = v.ownBlock ∨ X k) w s b) (hb : F.length ≤ 999999) (hlo : lo ≤ w.heap.size) (hX : ∀ k, X k → k < w.heap.size) :
    ∃ v' w', (Builtin.append_ #[35, 35] ty #[u, .slice (some ⟨w.heap.size, 0, none⟩) 1 1]).run Tryz.prog (w.alloc (.cells #[s] 41)) = .ok v' w' ∧ Two X lo w' v' v (F ++ [b]) M ∧ (∀ k, X k → w'.heap[k]? = w.heap[k]?) ∧ Below lo w w' := by
  have hal : Below w.heap.size w (w.alloc (.cells #[s] 41)) := (Below.refl _ _).alloc (Nat.le_refl _) _
  obtain ⟨v', w', h1, h2, h3, h4, h5⟩ := LX.append1 ty h.a hs hb hlo (fun k hk => hk.elim (fun e => (h.b.1.lt k e.symm).2) (hX k))
  exact ⟨v', w', h1, (h.below hal).grown h2 h3 (fun z hz => (h4 z hz).imp id (fun e => by simp; omega)), fun k hk => (h3.block k (by have := hX k hk; simp; omega) (fun e => h.a.2 k e.symm (.inr hk))).trans (hal.block k (hX k hk)), h5⟩
/-- The second grows by a list. -/
theorem Two.push2 {X : Nat → Prop} {lo : Nat} {w : World} {u v vx : Value} {F M cs : List Bx} (ty : TypeId) (h : Two X lo w u v F M) (hs : BxsV (fun k => some k = v.ownBlock ∨ some k = u.ownBlock ∨ X k) w vx cs) (hb : M.length + cs.length ≤ 1000000) (hlo : lo ≤ w.heap.size) (hX : ∀ k, X k → k < w.heap.size) :
    ∃ v' w', (Builtin.append_ #[35, 35] ty #[v, vx]).run Tryz.prog w = .ok v' w' ∧ Two X lo w' u v' F (M ++ cs) ∧ (∀ k, X k → w'.heap[k]? = w.heap[k]?) ∧ Below lo w w' := by
  obtain ⟨v', w', h1, h2, h3, h4, h5⟩ := LX.append ty h.b hs hb hlo (fun k hk => hk.elim (fun e => (h.a.1.lt k e.symm).2) (hX k))
  exact ⟨v', w', h1, (h.swap.grown h2 h3 (fun z hz => (h4 z hz).imp id (fun e => by omega))).swap, fun k hk => h3.block k (hX k hk) (fun e => h.b.2 k e.symm (.inr hk)), h5⟩
/-- What may be turned: block P, and the block in which the list ov lies. -/
def ZS (P : Nat) (ov : Value) (Y : Nat → Prop) (k : Nat) : Prop := k = P ∨ some k = ov.ownBlock ∨ Y k
theorem ZS.imp {P : Nat} {ov : Value} {Y Y' : Nat → Prop} (h : ∀ k, Y' k → Y k) : ∀ k, ZS P ov Y' k → ZS P ov Y k := fun k hk => Or.imp id (Or.imp id (h k)) hk
def Tw (P : Nat) (ov ov' : Value) (w w' : World) : Prop := w.heap.size ≤ w'.heap.size ∧ ∀ k, k < w.heap.size → k ≠ P → some k ≠ ov.ownBlock → w'.heap[k]? = w.heap[k]? ∧ some k ≠ ov'.ownBlock
theorem Tw.of {P : Nat} {ov : Value} {w w' : World} (h : Below w.heap.size w w') : Tw P ov ov w w' := ⟨h.size, fun k k1 _ k3 => ⟨h.block k k1, k3⟩⟩
theorem Tw.refl (P : Nat) (ov : Value) (w : World) : Tw P ov ov w w := Tw.of (Below.refl _ _)
theorem Tw.trans {P : Nat} {o1 o2 o3 : Value} {a b c : World} (h : Tw P o1 o2 a b) (k : Tw P o2 o3 b c) : Tw P o1 o3 a c :=
  ⟨Nat.le_trans h.1 k.1, fun z z1 z2 z3 => by
    obtain ⟨e1, n1⟩ := h.2 z z1 z2 z3
    obtain ⟨e2, n2⟩ := k.2 z (Nat.lt_of_lt_of_le z1 h.1) z2 n1
    exact ⟨e2.trans e1, n2⟩⟩
/-- Behind it only new blocks are turned. -/
theorem Tw.low {P L : Nat} {o1 o2 : Value} {a b c : World} (h : Tw P o1 o2 a b) (k : Below L b c) (hL : a.heap.size ≤ L) : Tw P o1 o2 a c :=
  ⟨Nat.le_trans h.1 k.size, fun z z1 z2 z3 => ⟨(k.block z (by omega)).trans (h.2 z z1 z2 z3).1, (h.2 z z1 z2 z3).2⟩⟩
theorem Tw.cell {P : Nat} {o1 o2 : Value} {a b : World} (h : Tw P o1 o2 a b) {p : Addr} (h1 : p.block < a.heap.size) (h2 : p.block ≠ P) (h3 : some p.block ≠ o1.ownBlock) : b.cell? p = a.cell? p := (World.cell?_of_block (h.2 p.block h1 h2 h3).1)
theorem BxsV.tw {P : Nat} {ov ov' : Value} {Y : Nat → Prop} {w w' : World} {v : Value} {bs : List Bx} (h : BxsV (ZS P ov Y) w v bs) (k : Tw P ov ov' w w') : BxsV (ZS P ov' Y) w' v bs :=
  h.keep k.1 (fun z z1 z2 => by
    obtain ⟨e, n⟩ := k.2 z z1 (fun e => z2 (.inl e)) (fun e => z2 (.inr (.inl e)))
    refine ⟨e, fun hz => ?_⟩
    rcases hz with hz | hz | hz
    · exact z2 (.inl hz)
    · exact n hz
    · exact z2 (.inr (.inr hz)))
theorem LX.tw {P lo : Nat} {ov ov' : Value} {Y : Nat → Prop} {w w' : World} {v : Value} {bs : List Bx} (h : LX (ZS P ov Y) lo w v bs) (k : Tw P ov ov' w w') : LX (ZS P ov' Y) lo w' v bs := by
  have hz : ∀ z, v.ownBlock = some z → w'.heap[z]? = w.heap[z]? ∧ ¬ ZS P ov' Y z := fun z hz => by
    have hn := h.2 z hz
    obtain ⟨e, n⟩ := k.2 z (h.1.lt z hz).2 (fun e => hn (.inl e)) (fun e => hn (.inr (.inl e)))
    refine ⟨e, fun hq => ?_⟩
    rcases hq with hq | hq | hq
    · exact hn (.inl hq)
    · exact n hq
    · exact hn (.inr (.inr hq))
  refine ⟨h.1.keepX k.1 (fun z h2 => (hz z h2).1) (fun z z1 z2 => ?_), fun z h2 => (hz z h2).2⟩
  obtain ⟨e, n⟩ := k.2 z z1 (fun e => z2 (.inr (.inl e))) (fun e => z2 (.inr (.inr (.inl e))))
  refine ⟨e, fun hq => ?_⟩
  rcases hq with hq | hq | hq | hq
  · exact z2 (.inl hq)
  · exact z2 (.inr (.inl hq))
  · exact n hq
  · exact z2 (.inr (.inr (.inr hq)))
/-- The rules that come out: their list stands in the cell of block P. -/
structure Ou (S P : Nat) (Y : Nat → Prop) (w : World) (ov : Value) (out : List Ft) : Prop where
  lt : P < w.heap.size
  s : S ≤ P
  c : w.cell? ⟨P, 0, none⟩ = some ov
  f : w.frozen? ⟨P, 0, none⟩ = false
  o : FtX (fun k => k = P ∨ Y k) S w ov out
  op : ∀ z, ov.ownBlock = some z → z ≠ P ∧ ¬ Y z
theorem Ou.below {S P : Nat} {Y : Nat → Prop} {w w' : World} {ov : Value} {out : List Ft} (h : Ou S P Y w ov out) (hb : Below w.heap.size w w') : Ou S P Y w' ov out :=
  ⟨Nat.lt_of_lt_of_le h.lt hb.size, h.s, (hb.cell (p := ⟨P, 0, none⟩) h.lt).trans h.c, (hb.frozen (p := ⟨P, 0, none⟩) h.lt).trans h.f, h.o.below hb, h.op⟩
theorem FtX.older {X X' : Nat → Prop} {lo : Nat} {w w' : World} {v : Value} {fs : List Ft} (h : FtX X lo w v fs) (hb : Below w.heap.size w w') (hX : ∀ k, X' k → X k ∨ w.heap.size ≤ k) : FtX X' lo w' v fs := by
  obtain ⟨rs, h1, h2⟩ := h
  exact ⟨rs, OwnSl.kept h1 hb, h2.mono (fun _ _ g => ⟨g.1.older hb (fun k hk => by
    rcases hk with e | e
    · exact .inr (.inl e)
    · rcases hX k e with e | e
      · exact .inr (.inr e)
      · exact .inl e), g.2⟩)⟩
theorem Ou.older {S P : Nat} {Y Y' : Nat → Prop} {w w' : World} {ov : Value} {out : List Ft} (h : Ou S P Y w ov out) (hb : Below w.heap.size w w') (hY : ∀ k, Y' k → Y k ∨ w.heap.size ≤ k) : Ou S P Y' w' ov out :=
  ⟨Nat.lt_of_lt_of_le h.lt hb.size, h.s, (hb.cell (p := ⟨P, 0, none⟩) h.lt).trans h.c, (hb.frozen (p := ⟨P, 0, none⟩) h.lt).trans h.f,
   h.o.older hb (fun k hk => by
    rcases hk with e | e
    · exact .inl (.inl e)
    · exact (hY k e).imp .inr id), fun z hz => ⟨(h.op z hz).1, fun hy => by
    rcases hY z hy with e | e
    · exact (h.op z hz).2 e
    · have := (h.o.lt z hz).2
      omega⟩⟩
theorem Ou.sub {S P : Nat} {Y Y' : Nat → Prop} {w : World} {ov : Value} {out : List Ft} (h : Ou S P Y w ov out) (hY : ∀ k, Y' k → Y k) : Ou S P Y' w ov out := h.older (Below.refl _ _) (fun k hk => .inl (hY k hk))
/-- A rule is put behind those that come out. -/
theorem Ou.push {S P : Nat} {Y : Nat → Prop} {w : World} {ov vx s : Value} {acc : Bool} {out : List Ft} {b : Bx} (ty : TypeId) (h : Ou S P Y w ov out) (hx : SlAt 2 RF.enc w vx [⟨s, acc⟩]) (hs : RwV (ZS P ov Y) w s b) (hb : out.length ≤ 999999) (hS : S ≤ w.heap.size) (hY : ∀ k, Y k → k < w.heap.size) :
    ∃ v' w', (Builtin.append_ #[27, 27] ty #[ov, vx]).run Tryz.prog w = .ok v' w' ∧ w'.cell? ⟨P, 0, none⟩ = some ov ∧ w'.frozen? ⟨P, 0, none⟩ = false ∧ Ou S P Y (w'.setCell ⟨P, 0, none⟩ v') v' (out ++ [⟨b, acc⟩]) ∧ Tw P ov v' w (w'.setCell ⟨P, 0, none⟩ v') ∧ Below S w (w'.setCell ⟨P, 0, none⟩ v') := by
  have hPo : some P ≠ ov.ownBlock := fun e => (h.op P e.symm).1 rfl
  obtain ⟨v', w', hrun, hF, hgr, hat⟩ := ft_append (X := fun k => k = P ∨ Y k) (gs := [⟨b, acc⟩]) ty h.o hx ((All2.nil).snoc ⟨hs.sub (fun k hk => by
    rcases hk with e | e | e
    · exact .inr (.inl e)
    · exact .inl e
    · exact .inr (.inr e)), rfl⟩) (by simp; omega) hS
  have hbl : w'.heap[P]? = w.heap[P]? := hgr.block P h.lt hPo
  have hz := hgr.size
  have hop : ∀ z, v'.ownBlock = some z → z ≠ P ∧ ¬ Y z := fun z hz2 => by
    rcases hat z hz2 with e | e
    · exact h.op z e
    · have := h.lt
      exact ⟨by omega, fun hy => by have := hY z hy; omega⟩
  have hkeep : ∀ k, k < w'.heap.size → ¬ (some k = v'.ownBlock ∨ k = P ∨ Y k) → (w'.setCell ⟨P, 0, none⟩ v').heap[k]? = w'.heap[k]? ∧ ¬ (some k = v'.ownBlock ∨ k = P ∨ Y k) := fun k _ k2 => ⟨Below.heap_setCell _ _ _ _ (fun e => k2 (.inr (.inl e))), k2⟩
  refine ⟨v', w', hrun, (World.cell?_of_block (a := ⟨P, 0, none⟩) hbl).trans h.c, (World.frozen?_of_block (a := ⟨P, 0, none⟩) hbl).trans h.f, ⟨by simp; exact Nat.lt_of_lt_of_le h.lt hz, h.s, World.cell?_setCell_same' _ _ _ (by rw [World.cell?_of_block (a := ⟨P, 0, none⟩) hbl, h.c]; rfl), by rw [World.frozen?_setCell]; exact (World.frozen?_of_block (a := ⟨P, 0, none⟩) hbl).trans h.f, ?_, hop⟩, ⟨by simpa using hz, fun k k1 k2 k3 => ⟨?_, fun e => ?_⟩⟩, ((Below.refl _ _).grown hgr hS (fun z hz => (h.o.lt z hz).1)).setCell h.s _⟩
  · obtain ⟨rs, f1, f2⟩ := hF
    exact ⟨rs, OwnSl.keepB f1 (fun z z1 _ _ => Below.heap_setCell _ _ _ _ (fun e => (hop z z1).1 e)), f2.mono (fun _ _ g => ⟨g.1.keep (by simp) hkeep, g.2⟩)⟩
  · rw [Below.heap_setCell _ _ _ _ (by simpa using k2)]
    exact hgr.block k k1 k3
  · rcases hat k e.symm with h1 | h1
    · exact k3 h1.symm
    · omega
end Go.Proofs.YtfcbbahlhjdefaaGreatDoor
