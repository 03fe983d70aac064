/- Drawn rulesets. -/
import Derived.Test.YtfcbbahlhjdefaaDoorRdRs
import Derived.Test.YtfcbbahlhjdefaaDoorRgM
import Derived.Deep.DeepCutAuto
namespace Go.Proofs.YtfcbbahlhjdefaaDoor
open Go.RowKit
theorem SlV.hi2 {α : Type} {sz lo : Nat} {enc : α → List Value} {w : World} {v : Value} {xs : List α} (h : SlV (fun k => k < lo) sz enc w v xs) : SlFr lo sz enc w v xs := by
  obtain ⟨⟨a, cap, rfl, h1, h2, hx⟩, hP⟩ := h
  refine ⟨a, cap, rfl, h1, h2, fun k x hk => ?_⟩
  obtain ⟨b, o, e, hb, h3, hc⟩ := hx k x hk
  subst e
  exact ⟨b, o, rfl, Nat.not_lt.1 (hP _ _ _ rfl (by rintro rfl; simp at hk)), h3, hc⟩
theorem RuV.low {lo : Nat} {w : World} {v : Value} {rs : List Ru} (h : RuV (fun k => k < lo) w v rs) : Rus lo w v rs :=
  let ⟨qs, h1, h2⟩ := h
  ⟨qs, h1.hi2, h2.mono (fun _ _ g => ⟨g.1.hi2, g.2⟩)⟩
/-- What the chains' list shares with nothing. -/
def PC (lo B : Nat) (cv : Value) (k : Nat) : Prop := some k = cv.ownBlock ∨ k = B ∨ k < lo
/-- Chains: the first one is the drawing's own, the others lie apart from it. -/
def Hdd (P : Nat → Prop) (lo : Nat) (w : World) : List Value → List (List Ru) → Prop
  | [], [] => True
  | u :: vt, c :: ct => RuW P lo w u c ∧ All2 (RuV (fun k => some k = u.ownBlock ∨ P k) w) vt ct
  | _, _ => False
theorem Hdd.keep {P P' : Nat → Prop} {lo : Nat} {w w' : World} (hz : w.heap.size ≤ w'.heap.size) (hk : ∀ k, k < w.heap.size → ¬ P k → w'.heap[k]? = w.heap[k]? ∧ ¬ P' k) : ∀ {vs : List Value} {cs : List (List Ru)}, Hdd P lo w vs cs → Hdd P' lo w' vs cs
  | [], [], _ => trivial
  | [], _ :: _, h => h.elim
  | _ :: _, [], h => h.elim
  | _ :: _, _ :: _, ⟨h1, h2⟩ => ⟨h1.keep hz hk, h2.mono (fun _ _ g => g.keep hz (fun k k1 k2 => ⟨(hk k k1 (fun e => k2 (.inr e))).1, fun e => e.elim (fun e => k2 (.inl e)) (hk k k1 (fun e => k2 (.inr e))).2⟩))⟩
theorem Hdd.all {P : Nat → Prop} {lo : Nat} {w : World} : ∀ {vs : List Value} {cs : List (List Ru)}, Hdd P lo w vs cs → All2 (RuV P w) vs cs
  | [], [], _ => All2.nil
  | [], _ :: _, h => h.elim
  | _ :: _, [], h => h.elim
  | u :: vt, c :: ct, ⟨h1, h2⟩ => by
    refine ⟨by simp [h2.1], fun k x y hx hy => ?_⟩
    cases k with
    | zero => cases hx; cases hy; exact h1.v
    | succ k => exact (h2.2 k x y (by simpa using hx) (by simpa using hy)).sub (fun _ h => .inr h)
theorem Hdd.snoc {P : Nat → Prop} {lo H : Nat} {w : World} {v : Value} {rs : List Ru} (hv : RuW (fun k => k < H) H w v rs) (hP : ∀ k, P k → k < H) (hl : lo ≤ H) : ∀ {vs : List Value} {cs : List (List Ru)}, Hdd P lo w vs cs → (∀ u, vs[0]? = some u → ∀ z, u.ownBlock = some z → z < H) → Hdd P lo w (vs ++ [v]) (cs ++ [rs])
  | [], [], _, _ => ⟨(hv.mono hl).keep (Nat.le_refl _) (fun _ _ k2 => ⟨rfl, fun e => k2 (hP _ e)⟩), All2.nil⟩
  | [], _ :: _, h, _ => h.elim
  | _ :: _, [], h, _ => h.elim
  | u :: vt, c :: ct, ⟨h1, h2⟩, hu => ⟨h1, h2.snoc (hv.v.sub (fun k hk => by
    rcases hk with e | e
    · exact hu u rfl k e.symm
    · exact hP k e))⟩
theorem Hdd.own {P : Nat → Prop} {lo : Nat} {w : World} : ∀ {vs : List Value} {cs : List (List Ru)}, Hdd P lo w vs cs → ∀ u, vs[0]? = some u → ∀ z, u.ownBlock = some z → z < w.heap.size
  | [], _, _, _, hu, _, _ => by simp at hu
  | _ :: _, [], h, _, _, _, _ => h.elim
  | u :: vt, c :: ct, ⟨h1, _⟩, x, hx, z, hz => by cases hx; exact (h1.lt z hz).2
theorem infoRs1 : (Tryd.prog.info? 31).map (fun i => (i.zero, i.size, i.bytes)) = some (some (.slice none 0 0), 1, 24) := by kernel_rfl
/-- The drawn ruleset in the making: the answer's block is the first new one, B the variable's. -/
structure RcS (R : Nat) (bs : List Int) (w : World) (B : Nat) (wx : World) (q : Nat) (cv : Value) (cs : List (List Ru)) (acc : Bool) : Prop where
  rd : RdAt R bs wx q
  hR : R < w.heap.size
  hB : w.heap.size < B
  lt : B < wx.heap.size
  c0 : wx.cell? ⟨B, 0, none⟩ = some cv
  c1 : wx.cell? ⟨B, 1, none⟩ = some (.bool acc)
  fz : ∀ j, wx.frozen? ⟨B, j, none⟩ = false
  a0 : (wx.cell? ⟨w.heap.size, 0, none⟩).isSome = true
  a1 : (wx.cell? ⟨w.heap.size, 1, none⟩).isSome = true
  af : ∀ j, wx.frozen? ⟨w.heap.size, j, none⟩ = false
  ch : ∃ vs, OwnSl (w.heap.size + 1) 31 1 enc1 wx cv vs ∧ cv.ownBlock ≠ some B ∧ Hdd (PC (w.heap.size + 1) B cv) (w.heap.size + 1) wx vs cs
  ok : ∀ l, l ∈ cs → l.length ≤ 4 ∧ TsOk l
  mv : Mv R w.heap.size w wx
section
variable {R : Nat} {bs : List Int} {w : World} {B : Nat} {wx wy : World} {q q' : Nat} {cv : Value} {cs : List (List Ru)} {acc : Bool}
theorem RcS.mv' (S : RcS R bs w B wx q cv cs acc) (hr : RdAt R bs wy q') (hm : Mv R wx.heap.size wx wy) : RcS R bs w B wy q' cv cs acc := by
  have hR := S.hR; have hB := S.hB; have hl := S.lt
  obtain ⟨vs, h1, h2, h3⟩ := S.ch
  exact ⟨hr, S.hR, S.hB, Nat.lt_of_lt_of_le hl hm.size, (mvC hm B hl (by omega) 0).trans S.c0, (mvC hm B hl (by omega) 1).trans S.c1, fun j => (mvF hm B hl (by omega) j).trans (S.fz j),
    by rw [mvC hm w.heap.size (by omega) (by omega) 0]; exact S.a0, by rw [mvC hm w.heap.size (by omega) (by omega) 1]; exact S.a1, fun j => (mvF hm w.heap.size (by omega) (by omega) j).trans (S.af j), ⟨vs, OwnSl.mvK h1 hm (by omega), h2, h3.keep hm.size (fun k k1 k2 => ⟨hm.block k k1 (fun e => k2 (.inr (.inr (by omega)))), k2⟩)⟩, S.ok, S.mv.trans (hm.mono S.mv.size)⟩
theorem RcS.form (S : RcS R bs w B wx q cv cs acc) : ∃ a c, cv = .slice a cs.length c := by
  obtain ⟨vs, h1, h2, h3⟩ := S.ch
  rw [← h3.all.1]
  rcases OwnSl.form h1 with ⟨h, h'⟩ | ⟨g, c, h, _⟩
  · exact ⟨_, _, by rw [h', h]; rfl⟩
  · exact ⟨_, _, h⟩
/-- A chain is put behind, and the list stored. -/
theorem RcS.push (S : RcS R bs w B wx q cv cs acc) {H : Nat} {u : Value} {rs : List Ru} {vx : Value} (ty : TypeId) (hx : SlAt 1 enc1 wx vx [u]) (hu : RuW (fun k => k < H) H wx u rs) (hok : rs.length ≤ 4 ∧ TsOk rs) (hcH : ∀ z, cv.ownBlock = some z → z < H) (hBH : B < H) (hch : ∃ vs, OwnSl (w.heap.size + 1) 31 1 enc1 wx cv vs ∧ cv.ownBlock ≠ some B ∧ Hdd (PC (w.heap.size + 1) B cv) (w.heap.size + 1) wx vs cs ∧ ∀ u, vs[0]? = some u → ∀ z, u.ownBlock = some z → z < H) (hl : cs.length ≤ 1000) :
    ∃ v' w', (Builtin.append_ #[23, 23] ty #[cv, vx]).run Tryd.prog wx = .ok v' w' ∧ w'.cell? ⟨B, 0, none⟩ = some cv ∧ w'.frozen? ⟨B, 0, none⟩ = false ∧ (∃ a n c, v' = .slice a n c) ∧ RcS R bs w B (w'.setCell ⟨B, 0, none⟩ v') q v' (cs ++ [rs]) acc := by
  have hR := S.hR; have hB := S.hB; have hlt := S.lt
  obtain ⟨vs, h1, h2, h3, hhd⟩ := hch
  obtain ⟨i0, hi, hy0, hy1, hy2⟩ := info_parts infoRs1
  obtain ⟨ua, uc, huf⟩ := hu.form
  have hone : ∀ x ∈ [u].flatMap enc1, x.oneCell' = true := fun x hx => by
    simp only [List.flatMap_cons, List.flatMap_nil, List.append_nil, enc1, List.mem_cons, List.not_mem_nil, or_false] at hx
    rw [hx, huf]; rfl
  have e1 := h3.all.1
  obtain ⟨v', w', hrun, hown, hgr, hat⟩ := own_append_all (sz := 1) (enc := enc1) (by omega) (fun _ => rfl) (P := Tryd.prog) 23 ty 31 i0 _ 24 Tryd.underlying23 hi hy0 hy1 hy2 rfl hone h1 hx (by simp; omega) (by simp only [maxLen, List.length_cons, List.length_nil]; omega) (by omega)
  have hz := hgr.size
  have hBo : some B ≠ cv.ownBlock := fun e => h2 e.symm
  have hAo : some w.heap.size ≠ cv.ownBlock := fun e => by have := (World.ownsRow.lt h1 _ e.symm).1; omega
  have hRo : some R ≠ cv.ownBlock := fun e => by have := (World.ownsRow.lt h1 _ e.symm).1; omega
  have hat2 : ∀ z, v'.ownBlock = some z → cv.ownBlock = some z ∨ wx.heap.size ≤ z := fun z hz2 => (hat z hz2).imp id (fun e => by omega)
  have hB' : v'.ownBlock ≠ some B := fun e => by
    rcases hat2 B e with h | h
    · exact h2 h
    · omega
  have hk : ∀ k, k ≠ B → (w'.setCell ⟨B, 0, none⟩ v').heap[k]? = w'.heap[k]? := fun k k1 => Below.heap_setCell _ _ _ _ k1
  have kB := hgr.block B hlt hBo
  have cB : w'.cell? ⟨B, 0, none⟩ = some cv := (World.cell?_of_block (a := ⟨B, 0, none⟩) kB).trans S.c0
  have cB1 : w'.cell? ⟨B, 1, none⟩ = some (.bool acc) := (World.cell?_of_block (a := ⟨B, 1, none⟩) kB).trans S.c1
  have fB : ∀ j, w'.frozen? ⟨B, j, none⟩ = false := fun j => (World.frozen?_of_block (a := ⟨B, j, none⟩) kB).trans (S.fz j)
  have kA : (w'.setCell ⟨B, 0, none⟩ v').heap[w.heap.size]? = wx.heap[w.heap.size]? := (hk _ (by omega)).trans (hgr.block _ (by omega) hAo)
  have hBel : Below (w.heap.size + 1) wx (w'.setCell ⟨B, 0, none⟩ v') := ((Below.refl _ _).grown hgr (by omega) (fun z hz => (World.ownsRow.lt h1 z hz).1)).setCell (by simp only; omega) _
  have key : ∀ k, k < wx.heap.size → ¬ PC (w.heap.size + 1) B cv k → (w'.setCell ⟨B, 0, none⟩ v').heap[k]? = wx.heap[k]? ∧ ¬ PC (w.heap.size + 1) B v' k := fun k k1 k2 => ⟨(hk k (fun e => k2 (.inr (.inl e)))).trans (hgr.block k k1 (fun e => k2 (.inl e))), fun e => by
    rcases e with e | e
    · rcases hat2 k e.symm with h | h
      · exact k2 (.inl h.symm)
      · omega
    · exact k2 (.inr e)⟩
  have hPH : ∀ k, PC (w.heap.size + 1) B cv k → k < H := fun k hk => by
    rcases hk with e | e | e
    · exact hcH k e.symm
    · omega
    · omega
  refine ⟨v', w', hrun, cB, fB 0, ?_, ⟨S.rd.up (hBel.mono (by omega)), S.hR, S.hB, by simp; omega, World.cell?_setCell_same' _ _ _ (by rw [cB]; rfl), by rw [World.cell?_setCell_other _ _ _ _ (by simp)]; exact cB1, fun j => by rw [World.frozen?_setCell]; exact fB j,
    by rw [World.cell?_of_block (a := ⟨w.heap.size, 0, none⟩) kA]; exact S.a0, by rw [World.cell?_of_block (a := ⟨w.heap.size, 1, none⟩) kA]; exact S.a1, fun j => by rw [World.frozen?_of_block (a := ⟨w.heap.size, j, none⟩) kA]; exact S.af j,
    ⟨vs ++ [u], OwnSl.keepB hown (fun z z1 _ _ => hk z (fun e => hB' (by rw [z1, e]))), hB', (h3.snoc hu hPH (by omega) hhd).keep (by simpa using hz) key⟩, fun l hl => ?_, S.mv.trans (Mv.of_below (hBel.mono (by omega)))⟩⟩
  · rcases OwnSl.form hown with ⟨h, _⟩ | ⟨g, c, h, _⟩
    · exact ⟨_, _, _, h⟩
    · exact ⟨_, _, _, h⟩
  · rcases List.mem_append.1 hl with h | h
    · exact S.ok l h
    · rw [List.mem_singleton.1 h]; exact hok
theorem RcS.own (S : RcS R bs w B wx q cv cs acc) : ∀ z, cv.ownBlock = some z → z < wx.heap.size := by
  obtain ⟨vs, h1, -, -⟩ := S.ch
  exact fun z hz => (World.ownsRow.lt h1 z hz).2
/-- Behind what moved the reader. -/
theorem RcS.push' (S : RcS R bs w B wx q cv cs acc) (hr : RdAt R bs wy q') (hm : Mv R wx.heap.size wx wy) {u : Value} {rs : List Ru} {vx : Value} (ty : TypeId) (hx : SlAt 1 enc1 wy vx [u]) (hu : RuW (fun k => k < wx.heap.size) wx.heap.size wy u rs) (hok : rs.length ≤ 4 ∧ TsOk rs) (hl : cs.length ≤ 1000) :
    ∃ v' w', (Builtin.append_ #[23, 23] ty #[cv, vx]).run Tryd.prog wy = .ok v' w' ∧ w'.cell? ⟨B, 0, none⟩ = some cv ∧ w'.frozen? ⟨B, 0, none⟩ = false ∧ (∃ a n c, v' = .slice a n c) ∧ RcS R bs w B (w'.setCell ⟨B, 0, none⟩ v') q' v' (cs ++ [rs]) acc := by
  have hlt := S.lt; have hR := S.hR
  obtain ⟨vs, h1, h2, h3⟩ := S.ch
  refine (S.mv' hr hm).push ty hx hu hok S.own hlt ⟨vs, OwnSl.mvK h1 hm (by omega), h2, h3.keep hm.size (fun k k1 k2 => ⟨hm.block k k1 (fun e => k2 (.inr (.inr (by omega)))), k2⟩), h3.own⟩ hl
end
/-- What comes out of a drawing, and the reader behind it. -/
def FRs (H R : Nat) (bs : List Int) (p : Nat) (w : World) (v : Value) : Prop := ∃ rs, RuW (fun k => k < H) H w v rs ∧ rs.length ≤ 4 ∧ TsOk rs ∧ ∃ q, RdAt R bs w q ∧ q ≤ p
theorem RuW.below {P : Nat → Prop} {lo : Nat} {w w' : World} {v : Value} {rs : List Ru} (h : RuW P lo w v rs) (hb : Below w.heap.size w w') : RuW P lo w' v rs := h.keep hb.size (fun k k1 k2 => ⟨hb.block k k1, k2⟩)
theorem RuW.less {P P' : Nat → Prop} {lo : Nat} {w : World} {v : Value} {rs : List Ru} (h : RuW P lo w v rs) (hP : ∀ k, P' k → P k) : RuW P' lo w v rs := h.keep (Nat.le_refl _) (fun k _ k2 => ⟨rfl, fun e => k2 (hP k e)⟩)
theorem frs_b {H R : Nat} {bs : List Int} {p : Nat} : BStb (FRs H R bs p) := fun _ _ _ hb ⟨rs, h1, h2, h3, q, h4, h5⟩ => ⟨rs, h1.below hb, h2, h3, q, h4.below hb, h5⟩
/-- A literal of one list of rules. -/
def FRl (H : Nat) (w : World) (v : Value) : Prop := ∃ g u rs, v = .slice (some ⟨g, 0, none⟩) 1 1 ∧ w.cell? ⟨g, 0, none⟩ = some u ∧ H ≤ g ∧ g < w.heap.size ∧ RuW (fun k => k < H) H w u rs ∧ rs.length ≤ 4 ∧ TsOk rs
theorem frl_b {H : Nat} : BStb (FRl H) := fun _ _ _ hb ⟨g, u, rs, h1, h2, h3, h4, h5, h6⟩ => ⟨g, u, rs, h1, (hb.cell (p := ⟨g, 0, none⟩) h4).trans h2, h3, Nat.lt_of_lt_of_le h4 hb.size, h5.below hb, h6⟩
theorem frl_m {H R : Nat} (hR : R < H) : MStb R (FRl H) := fun _ _ _ hm ⟨g, u, rs, h1, h2, h3, h4, h5, h6⟩ => ⟨g, u, rs, h1, (mvC hm g h4 (by omega) 0).trans h2, h3, Nat.lt_of_lt_of_le h4 hm.size, h5.mv hm hR, h6⟩
theorem slOne {w : World} {g : Nat} {u : Value} (h : w.cell? ⟨g, 0, none⟩ = some u) (hg : g < w.heap.size) : SlAt 1 enc1 w (.slice (some ⟨g, 0, none⟩) 1 1) [u] := by
  refine ⟨_, 1, rfl, by simp, by simp [maxLen], fun k x hk => ?_⟩
  match k, hk with
  | 0, hk =>
    cases hk
    refine ⟨g, 0, rfl, hg, fun j y hj => ?_⟩
    match j, hj with
    | 0, hj => cases hj; exact h
    | j + 1, hj => simp [enc1] at hj
  | k + 1, hk => simp at hk
/-- What is known of chain k. -/
def RcL (k : Nat) (l : List Ru) : Prop := l.length ≤ 10 ∧ TsOk l ∧ (rusvalid l = true → l.length ≤ if k = 0 then 5 else 4)
theorem RcL.short {k : Nat} {l : List Ru} (h : l.length ≤ 4) (ht : TsOk l) : RcL k l := ⟨by omega, ht, fun _ => by split <;> omega⟩
def RcOk (cs : List (List Ru)) : Prop := ∀ (k : Nat) l, cs[k]? = some l → RcL k l
/-- The drawn ruleset behind the lists' making: its chains are read alone. -/
structure RcX (R : Nat) (bs : List Int) (w : World) (B : Nat) (wx : World) (q : Nat) (cv : Value) (cs : List (List Ru)) (acc : Bool) : Prop where
  rd : RdAt R bs wx q
  hR : R < w.heap.size
  hB : w.heap.size < B
  lt : B < wx.heap.size
  c0 : wx.cell? ⟨B, 0, none⟩ = some cv
  c1 : wx.cell? ⟨B, 1, none⟩ = some (.bool acc)
  fz : ∀ j, wx.frozen? ⟨B, j, none⟩ = false
  a0 : (wx.cell? ⟨w.heap.size, 0, none⟩).isSome = true
  a1 : (wx.cell? ⟨w.heap.size, 1, none⟩).isSome = true
  af : ∀ j, wx.frozen? ⟨w.heap.size, j, none⟩ = false
  ch : ∃ vs, OwnSl (w.heap.size + 1) 31 1 enc1 wx cv vs ∧ cv.ownBlock ≠ some B ∧ All2 (RuV (PC (w.heap.size + 1) B cv) wx) vs cs
  ok : RcOk cs
  mv : Mv R w.heap.size w wx
def DrawnRc (R : Nat) (bs : List Int) (p : Nat) (w : World) (e : Ending) (w' : World) : Prop :=
  ∃ v cs acc q, e = .returned (.agg #[v, .bool acc]) ∧ Rss w.heap.size w' v cs ∧ cs.length ≤ 3 ∧ RcOk cs ∧ RdAt R bs w' q ∧ q ≤ p + 60000 ∧ Mv R w.heap.size w w'
section
variable {R : Nat} {bs : List Int} {w : World} {B : Nat} {wx wy : World} {q q' : Nat} {cv : Value} {cs : List (List Ru)} {acc : Bool}
theorem RcS.toX (S : RcS R bs w B wx q cv cs acc) : RcX R bs w B wx q cv cs acc :=
  ⟨S.rd, S.hR, S.hB, S.lt, S.c0, S.c1, S.fz, S.a0, S.a1, S.af, let ⟨vs, h1, h2, h3⟩ := S.ch; ⟨vs, h1, h2, h3.all⟩, fun _ l hl => RcL.short (S.ok l (List.mem_of_getElem? hl)).1 (S.ok l (List.mem_of_getElem? hl)).2, S.mv⟩
theorem RcX.mv' (S : RcX R bs w B wx q cv cs acc) (hr : RdAt R bs wy q') (hm : Mv R wx.heap.size wx wy) : RcX R bs w B wy q' cv cs acc := by
  have hR := S.hR; have hB := S.hB; have hl := S.lt
  obtain ⟨vs, h1, h2, h3⟩ := S.ch
  exact ⟨hr, S.hR, S.hB, Nat.lt_of_lt_of_le hl hm.size, (mvC hm B hl (by omega) 0).trans S.c0, (mvC hm B hl (by omega) 1).trans S.c1, fun j => (mvF hm B hl (by omega) j).trans (S.fz j),
    by rw [mvC hm w.heap.size (by omega) (by omega) 0]; exact S.a0, by rw [mvC hm w.heap.size (by omega) (by omega) 1]; exact S.a1, fun j => (mvF hm w.heap.size (by omega) (by omega) j).trans (S.af j), ⟨vs, OwnSl.mvK h1 hm (by omega), h2, h3.mono (fun _ _ g => g.keep hm.size (fun k k1 k2 => ⟨hm.block k k1 (fun e => k2 (.inr (.inr (by omega)))), k2⟩))⟩, S.ok, S.mv.trans (hm.mono S.mv.size)⟩
theorem RcX.below (S : RcX R bs w B wx q cv cs acc) (hb : Below wx.heap.size wx wy) : RcX R bs w B wy q cv cs acc := S.mv' (S.rd.below hb) (Mv.of_below hb)
/-- An element of the chains' list is written. -/
theorem RcX.set (S : RcX R bs w B wx q cv cs acc) {k : Nat} (hk : k < cs.length) {u : Value} {rs : List Ru} (hu : RuV (PC (w.heap.size + 1) B cv) wx u rs) (hok : RcL k rs) :
    ∃ g c, cv = .slice (some ⟨g, 0, none⟩) cs.length c ∧ (wx.cell? ⟨g, k, none⟩).isSome = true ∧ wx.frozen? ⟨g, k, none⟩ = false ∧ RcX R bs w B (wx.setCell ⟨g, k, none⟩ u) q cv (cs.set k rs) acc := by
  have hR := S.hR; have hB := S.hB; have hlt := S.lt
  obtain ⟨vs, h1, h2, h3⟩ := S.ch
  have e1 := h3.1
  rcases OwnSl.form h1 with ⟨h, h'⟩ | ⟨g, c, h, hgl, hgx, _, _, hfz⟩
  · rw [h'] at e1; simp at e1; omega
  · subst h
    obtain ⟨y, hy⟩ : ∃ y, vs[k]? = some y := ⟨_, List.getElem?_eq_getElem (by omega)⟩
    have d0 := OwnSl.cell (sz := 1) (enc := enc1) (fun _ => rfl) h1 hy 0 _ rfl
    obtain ⟨hst, hgr⟩ := OwnSl.store (sz := 1) (enc := enc1) (fun _ => rfl) rfl h1 (k := k) (by omega) u
    simp only [Nat.add_zero, Nat.mul_one, wSet] at d0 hst hgr
    have hgB : g ≠ B := fun e => h2 (by rw [e]; rfl)
    have hk2 : ∀ j, j ≠ g → (wx.setCell ⟨g, k, none⟩ u).heap[j]? = wx.heap[j]? := fun j hj => Below.heap_setCell _ _ _ _ hj
    have hcl : ∀ b, b ≠ g → ∀ j, (wx.setCell ⟨g, k, none⟩ u).cell? ⟨b, j, none⟩ = wx.cell? ⟨b, j, none⟩ := fun b hb j => World.cell?_of_block (a := ⟨b, j, none⟩) (hk2 b hb)
    have hcf : ∀ b, b ≠ g → ∀ j, (wx.setCell ⟨g, k, none⟩ u).frozen? ⟨b, j, none⟩ = wx.frozen? ⟨b, j, none⟩ := fun b hb j => World.frozen?_of_block (a := ⟨b, j, none⟩) (hk2 b hb)
    have hBel : Below (w.heap.size + 1) wx (wx.setCell ⟨g, k, none⟩ u) := (Below.refl _ _).setCell (by simp only; omega) _
    have key : ∀ j, j < wx.heap.size → ¬ PC (w.heap.size + 1) B (.slice (some ⟨g, 0, none⟩) vs.length c) j → (wx.setCell ⟨g, k, none⟩ u).heap[j]? = wx.heap[j]? ∧ ¬ PC (w.heap.size + 1) B (.slice (some ⟨g, 0, none⟩) vs.length c) j := fun j _ j2 => ⟨hk2 j (fun e => j2 (.inl (by rw [e]; rfl))), j2⟩
    rw [← e1]
    refine ⟨g, c, rfl, by rw [d0]; rfl, hfz k, S.rd.up (hBel.mono (by omega)), hR, hB, by simpa using hlt, (hcl B (fun e => hgB e.symm) 0).trans S.c0, (hcl B (fun e => hgB e.symm) 1).trans S.c1, fun j => (hcf B (fun e => hgB e.symm) j).trans (S.fz j),
      by rw [hcl w.heap.size (by omega) 0]; exact S.a0, by rw [hcl w.heap.size (by omega) 1]; exact S.a1, fun j => (hcf w.heap.size (by omega) j).trans (S.af j), ⟨vs.set k u, hst, h2, (h3.mono (fun _ _ g => g.keep (by simp) key)).set (hu.keep (by simp) key) k⟩, fun j l hl => ?_, S.mv.trans (Mv.of_below (hBel.mono (by omega)))⟩
    by_cases hj : k = j
    · subst hj
      rw [List.getElem?_set_self hk] at hl
      cases hl
      exact hok
    · rw [List.getElem?_set_ne hj] at hl
      exact S.ok j l hl
/-- The answer is written. -/
theorem RcX.fin (S : RcX R bs w B wx q cv cs acc) {p : Nat} {wz : World} (hb : Below w.heap.size wx wz) (hk : ∀ k, k < wx.heap.size → k ≠ w.heap.size → wz.heap[k]? = wx.heap[k]?) (hl : cs.length ≤ 3) (hq : q ≤ p + 60000) : DrawnRc R bs p w (.returned (.agg #[cv, .bool acc])) wz := by
  have hR := S.hR; have hB := S.hB
  obtain ⟨vs, h1, h2, h3⟩ := S.ch
  have h1' := OwnSl.keepB (w' := wz) h1 (fun z _ z2 z3 => hk z z3 (by omega))
  refine ⟨cv, cs, acc, q, rfl, ⟨vs, SlFr.mono (OwnSl.fr (sz := 1) (enc := enc1) (fun _ => rfl) h1') (Nat.le_succ _), h3.mono (fun _ _ g => ?_)⟩, hl, S.ok, S.rd.up (hb.mono (by omega)), hq, S.mv.trans (Mv.of_below hb)⟩
  exact RuV.low (g.keep (P' := fun k => k < w.heap.size) hb.size (fun k k1 k2 => ⟨hk k k1 (fun e => k2 (.inr (.inr (by omega)))), fun e => k2 (.inr (.inr (by omega)))⟩))
theorem RcX.out (S : RcX R bs w B wx q cv cs acc) {p : Nat} (hl : cs.length ≤ 3) (hq : q ≤ p + 60000) :
    (∃ y, wx.cell? ⟨w.heap.size, 0, none⟩ = some y) ∧ (∃ y, wx.cell? ⟨w.heap.size, 1, none⟩ = some y) ∧ ((wx.setCell ⟨w.heap.size, 0, none⟩ cv).setCell ⟨w.heap.size, 1, none⟩ (.bool acc)).cell? ⟨w.heap.size, 0, none⟩ = some cv ∧ ((wx.setCell ⟨w.heap.size, 0, none⟩ cv).setCell ⟨w.heap.size, 1, none⟩ (.bool acc)).cell? ⟨w.heap.size, 1, none⟩ = some (.bool acc) ∧
    Hid (DrawnRc R bs p w (.returned (.agg #[cv, .bool acc])) ((wx.setCell ⟨w.heap.size, 0, none⟩ cv).setCell ⟨w.heap.size, 1, none⟩ (.bool acc))) := by
  obtain ⟨y0, a0⟩ := Option.isSome_iff_exists.1 S.a0
  obtain ⟨y1, a1⟩ := Option.isSome_iff_exists.1 S.a1
  refine ⟨⟨y0, a0⟩, ⟨y1, a1⟩, ?_, World.cell?_setCell_same' _ _ _ (by rw [World.cell?_setCell_other _ _ _ _ (by simp), a1]; rfl), Lib.hid (S.fin ?_ ?_ hl hq)⟩
  · rw [World.cell?_setCell_other _ _ _ _ (by simp)]; exact World.cell?_setCell_same' _ _ _ (by rw [a0]; rfl)
  · exact Below.setCell (p := ⟨w.heap.size, 1, none⟩) (Below.setCell (p := ⟨w.heap.size, 0, none⟩) (Below.refl _ _) (Nat.le_refl _) _) (Nat.le_refl _) _
  · intro k _ k2
    rw [Below.heap_setCell _ _ _ _ k2, Below.heap_setCell _ _ _ _ k2]
theorem RcX.clear (S : RcX R bs w B wx q cv cs acc) : RcX R bs w B ((wx.alloc (.cells #[] 31)).setCell ⟨B, 0, none⟩ (.slice (some ⟨wx.heap.size, 0, none⟩) 0 0)) q (.slice (some ⟨wx.heap.size, 0, none⟩) 0 0) [] acc := by
  have hR := S.hR; have hB := S.hB; have hlt := S.lt
  have hal : Below wx.heap.size wx (wx.alloc (.cells #[] 31)) := (Below.refl _ _).alloc (Nat.le_refl _) _
  have X := S.below hal
  have hk : ∀ k, k ≠ B → ((wx.alloc (.cells #[] 31)).setCell ⟨B, 0, none⟩ (.slice (some ⟨wx.heap.size, 0, none⟩) 0 0)).heap[k]? = (wx.alloc (.cells #[] 31)).heap[k]? := fun k hk => Below.heap_setCell _ _ _ _ hk
  have hBel : Below (w.heap.size + 1) (wx.alloc (.cells #[] 31)) ((wx.alloc (.cells #[] 31)).setCell ⟨B, 0, none⟩ (.slice (some ⟨wx.heap.size, 0, none⟩) 0 0)) := Below.setCell (p := ⟨B, 0, none⟩) (Below.refl _ _) (by simp only; omega) _
  refine ⟨X.rd.up (hBel.mono (by omega)), hR, hB, by simp; omega, World.cell?_setCell_same' _ _ _ (by rw [X.c0]; rfl), by rw [World.cell?_setCell_other _ _ _ _ (by simp)]; exact X.c1, fun j => by rw [World.frozen?_setCell]; exact X.fz j,
    by rw [World.cell?_of_block (a := ⟨w.heap.size, 0, none⟩) (hk _ (by simp only; omega))]; exact X.a0, by rw [World.cell?_of_block (a := ⟨w.heap.size, 1, none⟩) (hk _ (by simp only; omega))]; exact X.a1, fun j => by rw [World.frozen?_setCell]; exact X.af j,
    ⟨[], OwnSl.keepB (litOwn 31 1 enc1 (w := wx) (by omega)) (fun z z1 _ _ => hk z (fun e => by have : z = wx.heap.size := (by simpa [Value.ownBlock] using z1.symm); omega)), fun e => by have : wx.heap.size = B := (by simpa [Value.ownBlock] using e); omega, All2.nil⟩, fun k l hl => absurd hl (by simp), X.mv.trans (Mv.of_below (hBel.mono (by omega)))⟩
theorem newRule {P : Nat → Prop} (w : World) (ch : Int) (hP : ∀ k, P k → k < w.heap.size) : RuV P (w.alloc (.cells #[.slice none 0 0, .int .i64 3, .int .i64 ch] 34)) (.slice (some ⟨w.heap.size, 0, none⟩) 1 1) [⟨[], 3, ch⟩] := by
  refine ⟨[⟨.slice none 0 0, 3, ch⟩], ⟨SlFr.of ⟨_, 1, rfl, by simp, by simp [maxLen], fun k x hk => ?_⟩, fun g n c e _ hp => ?_⟩, All2.nil.snoc ⟨SlV.none _, rfl, rfl⟩⟩
  · match k, hk with
    | 0, hk =>
      cases hk
      refine ⟨w.heap.size, 0, rfl, by simp, fun j u hj => ?_⟩
      have := cellsNew w (RR.enc ⟨.slice none 0 0, 3, ch⟩) 34 j u hj
      rwa [Addr.add_lit] at this
    | k + 1, hk => simp at hk
  · have h1 := hP _ hp
    obtain ⟨e1, -, -⟩ := Value.slice.inj e
    cases e1
    exact absurd h1 (Nat.lt_irrefl _)
theorem RcX.pc (S : RcX R bs w B wx q cv cs acc) : ∀ k, PC (w.heap.size + 1) B cv k → k < wx.heap.size := fun k hk => by
  have hB := S.hB; have hl := S.lt
  obtain ⟨vs, h1, h2, h3⟩ := S.ch
  rcases hk with e | e | e
  · exact (World.ownsRow.lt h1 k e.symm).2
  · omega
  · omega
theorem RcX.gform (S : RcX R bs w B wx q cv cs acc) (h : 0 < cs.length) : ∃ g c, cv = .slice (some ⟨g, 0, none⟩) cs.length c ∧ g < wx.heap.size ∧ w.heap.size < g ∧ (wx.cell? ⟨g, 0, none⟩).isSome = true := by
  obtain ⟨vs, h1, h2, h3⟩ := S.ch
  have e1 := h3.1
  rcases OwnSl.form h1 with ⟨h', h''⟩ | ⟨g, c, h', hg, hx, _⟩
  · rw [h''] at e1; simp at e1; omega
  · subst h'
    obtain ⟨y, hy⟩ : ∃ y, vs[0]? = some y := ⟨_, List.getElem?_eq_getElem (by omega)⟩
    have d0 := OwnSl.cell (sz := 1) (enc := enc1) (fun _ => rfl) h1 hy 0 _ rfl
    exact ⟨g, c, by rw [e1], hx, hg, by rw [show (⟨g, 0, none⟩ : Addr) = ⟨g, 0 * 1 + 0, none⟩ from rfl, d0]; rfl⟩
theorem RcX.setg {g n c : Nat} (S : RcX R bs w B wx q (.slice (some ⟨g, 0, none⟩) n c) cs acc) {k : Nat} (hk : k < cs.length) {u : Value} {rs : List Ru} (hu : RuV (PC (w.heap.size + 1) B (.slice (some ⟨g, 0, none⟩) n c)) wx u rs) (hok : RcL k rs) :
    (∃ y, wx.cell? ⟨g, k, none⟩ = some y) ∧ wx.frozen? ⟨g, k, none⟩ = false ∧ RcX R bs w B (wx.setCell ⟨g, k, none⟩ u) q (.slice (some ⟨g, 0, none⟩) n c) (cs.set k rs) acc := by
  obtain ⟨g', c', h, h1, h2, h3⟩ := S.set hk hu hok
  obtain ⟨e1, -, -⟩ := Value.slice.inj h
  cases e1
  exact ⟨Option.isSome_iff_exists.1 h1, h2, h3⟩
/-- A drawn list of rules stands for an element. -/
theorem RcX.puts {g n c : Nat} (S : RcX R bs w B wx q (.slice (some ⟨g, 0, none⟩) n c) cs acc) (hr : RdAt R bs wy q') (hm : Mv R wx.heap.size wx wy) {k : Nat} (hk : k < cs.length) {u : Value} {rs : List Ru} (hu : RuW (fun k => k < wx.heap.size) wx.heap.size wy u rs) (hok : RcL k rs) :
    (∃ y, wy.cell? ⟨g, k, none⟩ = some y) ∧ wy.frozen? ⟨g, k, none⟩ = false ∧ RcX R bs w B (wy.setCell ⟨g, k, none⟩ u) q' (.slice (some ⟨g, 0, none⟩) n c) (cs.set k rs) acc :=
  (S.mv' hr hm).setg hk (hu.v.sub (fun k hk => S.pc k hk)) hok
theorem RcS.head (S : RcS R bs w B wx q cv cs acc) (h : 0 < cs.length) : ∃ g c u, cv = .slice (some ⟨g, 0, none⟩) cs.length c ∧ g < wx.heap.size ∧ w.heap.size < g ∧ wx.cell? ⟨g, 0, none⟩ = some u ∧ ∃ a n c, u = .slice a n c := by
  obtain ⟨vs, h1, h2, h3⟩ := S.ch
  match vs, cs, h, h1, h3 with
  | [], [], h, _, _ => exact absurd h (by simp)
  | [], _ :: _, _, _, h3 => exact h3.elim
  | u :: vt, c0 :: ct, h, h1, h3 =>
    have e1 : vt.length = ct.length := h3.2.1
    rcases OwnSl.form h1 with ⟨h', h''⟩ | ⟨g, c, h', hg, hx, _⟩
    · cases h''
    · subst h'
      have d0 := OwnSl.cell (sz := 1) (enc := enc1) (fun _ => rfl) h1 (k := 0) (y := u) rfl 0 _ rfl
      obtain ⟨ua, uc, hf⟩ := h3.1.form
      exact ⟨g, c, u, by simp [e1], hx, hg, d0, ua, _, uc, hf⟩
/-- A rule is put behind the first chain's. -/
theorem RcS.grow (S : RcS R bs w B wx q cv cs acc) (hr : RdAt R bs wy q') (hm : Mv R wx.heap.size wx wy) {g n c : Nat} (hcv : cv = .slice (some ⟨g, 0, none⟩) n c) (h0 : 0 < cs.length) {u vx : Value} {x : Int} (hu : wx.cell? ⟨g, 0, none⟩ = some u) (ty : TypeId) (hx : SlAt 3 RR.enc wy vx [⟨.slice none 0 0, 3, x⟩]) :
    ∃ v' w', (Builtin.append_ #[31, 31] ty #[u, vx]).run Tryd.prog wy = .ok v' w' ∧ (∃ y, w'.cell? ⟨g, 0, none⟩ = some y) ∧ w'.frozen? ⟨g, 0, none⟩ = false ∧ (∃ a n c, v' = .slice a n c) ∧ w'.cell? ⟨B, 0, none⟩ = some cv ∧ ∃ cs', cs'.length = cs.length ∧ RcX R bs w B (w'.setCell ⟨g, 0, none⟩ v') q' cv cs' acc := by
  have S' := S.mv' hr hm
  have hR := S.hR; have hB := S.hB; have hlt := S'.lt; have hok := S.ok
  obtain ⟨vs, h1, h2, h3⟩ := S.ch
  match vs, cs, h0, h1, h3, S', hok with
  | [], [], h, _, _, _, _ => exact absurd h (by simp)
  | [], _ :: _, _, _, h3, _, _ => exact h3.elim
  | u' :: vt, c0 :: ct, h, h1, h3, S', hok =>
    subst hcv
    have d0 := OwnSl.cell (sz := 1) (enc := enc1) (fun _ => rfl) h1 (k := 0) (y := u') rfl 0 _ rfl
    have hgl := World.ownsRow.lt h1 g rfl
    rw [show (⟨g, 0 * 1 + 0, none⟩ : Addr) = ⟨g, 0, none⟩ from rfl, hu] at d0
    obtain rfl : u = u' := Option.some.inj d0
    have e1 : vt.length = ct.length := h3.2.1
    have h1y := OwnSl.mvK h1 hm (by omega)
    have h3y : Hdd (PC (w.heap.size + 1) B (.slice (some ⟨g, 0, none⟩) n c)) (w.heap.size + 1) wy (u :: vt) (c0 :: ct) := h3.keep hm.size (fun k k1 k2 => ⟨hm.block k k1 (fun e => k2 (.inr (.inr (by omega)))), k2⟩)
    obtain ⟨⟨qs, o1, o2, o3⟩, hT⟩ := h3y
    have hl0 := (hok c0 (by simp)).1
    have e2 := o3.1
    obtain ⟨i0, hi, hy0, hy1, hy2⟩ := info_parts infoRu
    have hone : ∀ y ∈ [(⟨.slice none 0 0, 3, x⟩ : RR)].flatMap RR.enc, y.oneCell' = true := fun y hy => by
      simp only [List.flatMap_cons, List.flatMap_nil, List.append_nil, RR.enc, List.mem_cons, List.not_mem_nil, or_false] at hy
      rcases hy with rfl | rfl | rfl <;> rfl
    obtain ⟨v', w', hrun, hown, hgr, hat⟩ := own_append_all (sz := 3) (enc := RR.enc) (by omega) (fun _ => rfl) (P := Tryd.prog) 31 ty 34 i0 _ 40 Tryd.underlying31 hi hy0 hy1 hy2 rfl hone o1 hx (by simp; omega) (by simp only [maxLen, List.length_cons, List.length_nil]; omega) (by omega)
    have hz := hgr.size
    have hzy := hm.size
    have hPy : ∀ k, PC (w.heap.size + 1) B (.slice (some ⟨g, 0, none⟩) n c) k → k < wy.heap.size := S'.toX.pc
    have hP : ∀ k, k < wy.heap.size → PC (w.heap.size + 1) B (.slice (some ⟨g, 0, none⟩) n c) k → w'.heap[k]? = wy.heap[k]? := fun k k1 k2 => hgr.block k k1 (fun e => o2 k e.symm k2)
    have hat2 : ∀ z, v'.ownBlock = some z → u.ownBlock = some z ∨ wy.heap.size ≤ z := fun z hz2 => (hat z hz2).imp id (fun e => by omega)
    have hv' : ∀ z, v'.ownBlock = some z → ¬ PC (w.heap.size + 1) B (.slice (some ⟨g, 0, none⟩) n c) z := fun z hz2 hp => by
      rcases hat2 z hz2 with e | e
      · exact o2 z e hp
      · have := hPy z hp; omega
    have hgP : PC (w.heap.size + 1) B (.slice (some ⟨g, 0, none⟩) n c) g := .inl rfl
    have hgB : g ≠ B := fun e => h2 (by rw [e]; rfl)
    have hs : ∀ k, k ≠ g → (w'.setCell ⟨g, 0, none⟩ v').heap[k]? = w'.heap[k]? := fun k hk => Below.heap_setCell _ _ _ _ hk
    have hkB : (w'.setCell ⟨g, 0, none⟩ v').heap[B]? = wy.heap[B]? := (hs B (fun e => hgB e.symm)).trans (hP B hlt (.inr (.inl rfl)))
    have hkl : ∀ k, k < w.heap.size + 1 → (w'.setCell ⟨g, 0, none⟩ v').heap[k]? = wy.heap[k]? := fun k hk => (hs k (by omega)).trans (hP k (by omega) (.inr (.inr hk)))
    have kg := hP g (by omega) hgP
    have h1w : OwnSl (w.heap.size + 1) 31 1 enc1 w' (.slice (some ⟨g, 0, none⟩) n c) (u :: vt) := OwnSl.keepB h1y (fun z z1 _ z3 => hP z z3 (.inl z1.symm))
    have hen : n = (u :: vt).length := by
      rcases OwnSl.form h1w with ⟨h', _⟩ | ⟨g', c', h', _⟩
      · cases h'
      · exact (Value.slice.inj h').2.1
    have dw := OwnSl.cell (sz := 1) (enc := enc1) (fun _ => rfl) h1w (k := 0) (y := u) rfl 0 _ rfl
    obtain ⟨hst, hgr2⟩ := OwnSl.store (sz := 1) (enc := enc1) (fun _ => rfl) hen h1w (k := 0) (by simp) v'
    simp only [Nat.add_zero, Nat.mul_one, wSet, List.set_cons_zero] at dw hst hgr2
    have hb : Below (w.heap.size + 1) wy (w'.setCell ⟨g, 0, none⟩ v') := ((Below.refl _ _).grown hgr (by omega) (fun z hz => (World.ownsRow.lt o1 z hz).1)).setCell (by simp only; omega) _
    have key : ∀ k, k < wy.heap.size → ¬ (some k = u.ownBlock ∨ PC (w.heap.size + 1) B (.slice (some ⟨g, 0, none⟩) n c) k) → w'.heap[k]? = wy.heap[k]? ∧ ¬ (some k = v'.ownBlock ∨ PC (w.heap.size + 1) B (.slice (some ⟨g, 0, none⟩) n c) k) := fun k k1 k2 => ⟨hgr.block k k1 (fun e => k2 (.inl e)), fun e => by
      rcases e with e | e
      · rcases hat2 k e.symm with h | h
        · exact k2 (.inl h.symm)
        · omega
      · exact k2 (.inr e)⟩
    have hnew : RuW (PC (w.heap.size + 1) B (.slice (some ⟨g, 0, none⟩) n c)) (w.heap.size + 1) w' v' (c0 ++ [⟨[], 3, x⟩]) := ⟨_, hown, hv', (o3.mono (fun _ _ g => ⟨g.1.keep hz key, g.2⟩)).snoc ⟨SlV.none _, rfl, rfl⟩⟩
    have hnew2 := hnew.v.keep (P' := PC (w.heap.size + 1) B (.slice (some ⟨g, 0, none⟩) n c)) (w' := w'.setCell ⟨g, 0, none⟩ v') (by simp) (fun k _ k2 => ⟨hs k (fun e => k2 (by rw [e]; exact hgP)), k2⟩)
    have hT2 : All2 (RuV (PC (w.heap.size + 1) B (.slice (some ⟨g, 0, none⟩) n c)) (w'.setCell ⟨g, 0, none⟩ v')) vt ct := hT.mono (fun _ _ g => g.keep (by simpa using hz) (fun k k1 k2 => ⟨(hs k (fun e => k2 (.inr (by rw [e]; exact hgP)))).trans (key k k1 k2).1, fun e => k2 (.inr e)⟩))
    have hform : ∃ a n c, v' = .slice a n c := by
      obtain ⟨a, c, h⟩ := hnew.form
      exact ⟨a, _, c, h⟩
    refine ⟨v', w', hrun, ⟨u, dw⟩, (World.frozen?_of_block (a := ⟨g, 0, none⟩) kg).trans (OwnSl.frz h1y 0), hform, (World.cell?_of_block (a := ⟨B, 0, none⟩) (hP B hlt (.inr (.inl rfl)))).trans S'.c0, (c0 ++ [⟨[], 3, x⟩]) :: ct, by simp, S'.rd.up (hb.mono (by omega)), hR, hB, Nat.lt_of_lt_of_le hlt hb.size, (World.cell?_of_block (a := ⟨B, 0, none⟩) hkB).trans S'.c0, (World.cell?_of_block (a := ⟨B, 1, none⟩) hkB).trans S'.c1, fun j => (World.frozen?_of_block (a := ⟨B, j, none⟩) hkB).trans (S'.fz j),
      by rw [World.cell?_of_block (a := ⟨w.heap.size, 0, none⟩) (hkl w.heap.size (by omega))]; exact S'.a0, by rw [World.cell?_of_block (a := ⟨w.heap.size, 1, none⟩) (hkl w.heap.size (by omega))]; exact S'.a1, fun j => (World.frozen?_of_block (a := ⟨w.heap.size, j, none⟩) (hkl w.heap.size (by omega))).trans (S'.af j), ⟨v' :: vt, hst, h2, ⟨by simp [e1], fun k a b ha hb => ?_⟩⟩, fun k l hl => ?_, S'.mv.trans (Mv.of_below (hb.mono (by omega)))⟩
    · cases k with
      | zero => cases ha; cases hb; exact hnew2
      | succ k => exact hT2.2 k a b (by simpa using ha) (by simpa using hb)
    · cases k with
      | zero =>
        cases hl
        exact ⟨by simp; omega, (hok c0 (by simp)).2.snoc ⟨by simp, fun _ => by simp⟩, fun _ => by simp; omega⟩
      | succ k =>
        have := hok l (List.mem_cons_of_mem _ (List.mem_of_getElem? (by simpa using hl)))
        exact RcL.short this.1 this.2
end
/-- A drawn list of rules. -/
def FRv (H : Nat) (w : World) (v : Value) : Prop := ∃ rs, RuW (fun k => k < H) H w v rs ∧ RcL 0 rs
theorem frv_m {H R : Nat} (hR : R < H) : MStb R (FRv H) := fun _ _ _ hm ⟨rs, h1, h2⟩ => ⟨rs, h1.mv hm hR, h2⟩
def FDx (R : Nat) (bs : List Int) (w : World) (B : Nat) (p : Nat) (cv : Value) (acc : Bool) (n : Nat) (w9 : World) : Prop := ∃ cs q, cs.length = n ∧ q ≤ p ∧ RcX R bs w B w9 q cv cs acc
/-- The reader's number and its place behind. -/
def FPx (R : Nat) (bs : List Int) (p : Nat) (w : World) (v : Value) : Prop := ∃ x : Int, v = .int .i64 x ∧ 0 ≤ x ∧ x < 2 ∧ RdAt R bs w p
theorem fpx_b {R : Nat} {bs : List Int} {p : Nat} : BStb (FPx R bs p) := fun _ _ _ hb ⟨x, h1, h2, h3, h4⟩ => ⟨x, h1, h2, h3, h4.below hb⟩
theorem bst_of {R : Nat} {p : World → Value → Prop} (h : MStb R p) : BStb p := fun w w' v hb => h w w' v (Mv.of_below hb)
/-- A literal of one rule. -/
def FLr (H : Nat) (w : World) (v : Value) : Prop := ∃ g x, v = .slice (some ⟨g, 0, none⟩) 1 1 ∧ H ≤ g ∧ g < w.heap.size ∧ w.cell? ⟨g, 0, none⟩ = some (.slice none 0 0) ∧ w.cell? ⟨g, 1, none⟩ = some (.int .i64 3) ∧ w.cell? ⟨g, 2, none⟩ = some (.int .i64 x)
theorem flr_m {H R : Nat} (hR : R < H) : MStb R (FLr H) := fun _ _ _ hm ⟨g, x, h1, h2, h3, h4, h5, h6⟩ => ⟨g, x, h1, h2, Nat.lt_of_lt_of_le h3 hm.size, (mvC hm g h3 (by omega) 0).trans h4, (mvC hm g h3 (by omega) 1).trans h5, (mvC hm g h3 (by omega) 2).trans h6⟩
theorem slRule {w : World} {g : Nat} {x : Int} (hg : g < w.heap.size) (h0 : w.cell? ⟨g, 0, none⟩ = some (.slice none 0 0)) (h1 : w.cell? ⟨g, 1, none⟩ = some (.int .i64 3)) (h2 : w.cell? ⟨g, 2, none⟩ = some (.int .i64 x)) : SlAt 3 RR.enc w (.slice (some ⟨g, 0, none⟩) 1 1) [⟨.slice none 0 0, 3, x⟩] := by
  refine ⟨_, 1, rfl, by simp, by simp [maxLen], fun k y hk => ?_⟩
  match k, hk with
  | 0, hk =>
    cases hk
    refine ⟨g, 0, rfl, hg, fun j u hj => ?_⟩
    match j, hj with
    | 0, hj => cases hj; exact h0
    | 1, hj => cases hj; exact h1
    | 2, hj => cases hj; exact h2
    | j + 3, hj => simp [RR.enc] at hj
  | k + 1, hk => simp at hk
def FAq (R : Nat) (bs : List Int) (w : World) (B g : Nat) (p : Nat) (cv : Value) (acc : Bool) (n : Nat) (w9 : World) (v : Value) : Prop := (∃ y, w9.cell? ⟨g, 0, none⟩ = some y) ∧ w9.frozen? ⟨g, 0, none⟩ = false ∧ (∃ a n c, v = .slice a n c) ∧ ∃ cs, cs.length = n ∧ RcX R bs w B (w9.setCell ⟨g, 0, none⟩ v) p cv cs acc
end Go.Proofs.YtfcbbahlhjdefaaDoor
