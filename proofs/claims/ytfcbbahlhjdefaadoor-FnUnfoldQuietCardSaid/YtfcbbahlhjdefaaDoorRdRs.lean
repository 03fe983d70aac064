/- Drawn lists of rules. -/
import Derived.Test.YtfcbbahlhjdefaaDoorCuW
import Derived.Test.YtfcbbahlhjdefaaDoorFnX
import Derived.Test.YtfcbbahlhjdefaaDoorFmZ
import Derived.Test.YtfcbbahlhjdefaaDoorRgCL
import Derived.Test.YtfcbbahlhjdefaaDoorDt
import Derived.Test.YtfcbbahlhjdefaaDoorRgX
import Derived.Deep.DeepCutAuto
import Derived.Test.YtfcbbahlhjdefaaDoorRgA
import Derived.Test.YtfcbbahlhjdefaaDoorDxAJ
import Derived.Test.YtfcbbahlhjdefaaDoorRdRu
/- The common packets of two boxes: the reference's walk. -/
namespace Go.Proofs.YtfcbbahlhjdefaaDoor
open Go.RowKit
end Go.Proofs.YtfcbbahlhjdefaaDoor
/- A box cut by a box: the reference's walk. -/
namespace Go.Proofs.YtfcbbahlhjdefaaDoor
open Go.RowKit
/-- A list in memory that no block of P holds. -/
def SlV {α : Type} (P : Nat → Prop) (sz : Nat) (enc : α → List Value) (w : World) (v : Value) (xs : List α) : Prop := SlFr 0 sz enc w v xs ∧ ∀ q n c, v = .slice (some q) n c → xs ≠ [] → ¬ P q.block
section
variable {α : Type} {P P' : Nat → Prop} {sz : Nat} {enc : α → List Value}
theorem SlV.keep {w w' : World} {v : Value} {xs : List α} (h : SlV P sz enc w v xs) (hz : w.heap.size ≤ w'.heap.size) (hk : ∀ k, k < w.heap.size → ¬ P k → w'.heap[k]? = w.heap[k]? ∧ ¬ P' k) : SlV P' sz enc w' v xs := by
  obtain ⟨⟨a, cap, rfl, h1, h2, hx⟩, hp⟩ := h
  refine ⟨⟨a, cap, rfl, h1, h2, fun k x hk' => ?_⟩, fun q n c e hne => ?_⟩
  · obtain ⟨b, o, ha, h3, h4, hc⟩ := hx k x hk'
    subst ha
    have hP := hp _ _ _ rfl (by intro e; subst e; simp at hk')
    exact ⟨b, o, rfl, h3, by omega, fun j u hj => (World.cell?_of_block (hk b h4 hP).1).trans (hc j u hj)⟩
  · obtain ⟨x, hx0⟩ : ∃ x, xs[0]? = some x := ⟨_, List.getElem?_eq_getElem (List.length_pos_iff.2 hne)⟩
    obtain ⟨b, o, ha, h3, h4, hc⟩ := hx 0 x hx0
    subst ha
    obtain ⟨e1, -, -⟩ := Value.slice.inj e
    cases e1
    exact (hk b h4 (hp _ _ _ rfl hne)).2
theorem SlV.high {lo : Nat} {w : World} {v : Value} {xs : List α} (h : SlFr lo sz enc w v xs) (hP : ∀ k, P k → k < lo) : SlV P sz enc w v xs := by
  refine ⟨h.mono (Nat.zero_le _), fun q n c e hne hp => ?_⟩
  obtain ⟨a, cap, rfl, h1, h2, hx⟩ := h
  obtain ⟨x, hx0⟩ : ∃ x, xs[0]? = some x := ⟨_, List.getElem?_eq_getElem (List.length_pos_iff.2 hne)⟩
  obtain ⟨b, o, ha, h3, h4, hc⟩ := hx 0 x hx0
  subst ha
  obtain ⟨e1, -, -⟩ := Value.slice.inj e
  cases e1
  have := hP _ hp
  simp only at this
  omega
theorem SlV.old {lo : Nat} {w0 w : World} {v : Value} {xs : List α} (h : SlFr lo sz enc w0 v xs) (hb : Below w0.heap.size w0 w) (hP : ∀ k, P k → w0.heap.size ≤ k) : SlV P sz enc w v xs := by
  refine ⟨(h.mono (Nat.zero_le _)).below hb, fun q n c e hne hp => ?_⟩
  obtain ⟨a, cap, rfl, h1, h2, hx⟩ := h
  obtain ⟨x, hx0⟩ : ∃ x, xs[0]? = some x := ⟨_, List.getElem?_eq_getElem (List.length_pos_iff.2 hne)⟩
  obtain ⟨b, o, ha, h3, h4, hc⟩ := hx 0 x hx0
  subst ha
  obtain ⟨e1, -, -⟩ := Value.slice.inj e
  cases e1
  have := hP _ hp
  simp only at this
  omega
theorem SlV.sub {w : World} {v : Value} {xs : List α} (h : SlV P sz enc w v xs) (hP : ∀ k, P' k → P k) : SlV P' sz enc w v xs := ⟨h.1, fun q n c e hne hp => h.2 q n c e hne (hP _ hp)⟩
end
theorem SpV.own2 {P : Nat → Prop} {base : Nat} {w : World} {v : Value} {xs : List Sp} (h : OwnSp base w v xs) (hP : ∀ k, P k → k < base ∨ w.heap.size ≤ k) : SpV P w v xs := by
  refine ⟨(OwnSp.sps h).mono (Nat.zero_le _), fun q n c e hne hp => ?_⟩
  rcases OwnSl.form h with ⟨_, h'⟩ | ⟨g, c', h', hg, hg2, _⟩
  · exact hne h'
  · rw [e] at h'
    obtain ⟨e1, -, -⟩ := Value.slice.inj h'
    cases e1
    have := hP _ hp
    simp only at this
    omega
end Go.Proofs.YtfcbbahlhjdefaaDoor
/- Lists of boxes in the exact laws; live parts and dead rules: plain laws. -/
namespace Go.Proofs.YtfcbbahlhjdefaaDoor
open Go.RowKit
end Go.Proofs.YtfcbbahlhjdefaaDoor
/- Live parts of rules: both walks; what a region leaves (reference). -/
namespace Go.Proofs.YtfcbbahlhjdefaaDoor
open Go.RowKit
/-- An append to a list of the call's own, of whatever list. -/
theorem own_append_all {α : Type} {sz : Nat} {enc : α → List Value} (hsz : 0 < sz) (henc : ∀ x, (enc x).length = sz) {P : Program} {lo : Nat} {w : World} (t ty e : TypeId) (i : TypeInfo) (z : Value) (bytes : Nat) (ht : P.underlying t = some (.slice e)) (hi : P.info? e = some i) (hz : i.zero = some z)
    (hsize : i.size = sz) (hby : i.bytes = bytes) (hzs : z.cells.size = sz) {v vx : Value} {ys zs : List α} (hone : ∀ u ∈ zs.flatMap enc, u.oneCell' = true) (ho : OwnSl lo e sz enc w v ys)
    (hs : SlAt sz enc w vx zs) (hbytes : (ys.length + zs.length) * bytes ≤ 140737488355328) (hmax : ys.length + zs.length ≤ maxLen) (hlo : lo ≤ w.heap.size) :
    ∃ v' w', (Builtin.append_ #[t, t] ty #[v, vx]).run P w = .ok v' w' ∧ OwnSl lo e sz enc w' v' (ys ++ zs) ∧ w.grownBy w' v.ownBlock ∧ ∀ x, v'.ownBlock = some x → v.ownBlock = some x ∨ x = w.heap.size := by
  obtain ⟨a, cap, rfl, h1, h2, hx⟩ := id hs
  by_cases hn : zs = []
  · subst hn
    rcases ho.form with ⟨rfl, rfl⟩ | ⟨g, cp, rfl, _, _, hcp, _, _⟩
    · exact ⟨_, w, run_append_nothing t ty e i ht hi none a 0 0 (Nat.le_refl _) cap (fun _ => ⟨rfl, rfl⟩), by simpa using ho, World.grownBy.refl _ _, fun x hx => .inl hx⟩
    · exact ⟨_, w, run_append_nothing t ty e i ht hi (some ⟨g, 0, none⟩) a _ _ hcp cap (fun h => by cases h), by simpa using ho, World.grownBy.refl _ _, fun x hx => .inl hx⟩
  · have hlen : 0 < zs.length := List.length_pos_iff.2 hn
    obtain ⟨b, o, ha, _, _⟩ := hx 0 zs[0] (List.getElem?_eq_getElem hlen)
    subst ha
    obtain ⟨g5, cap5, w5, hrun, hown5, hgr5, hat5, _⟩ := run_append_lies (P := P) (w := w) t ty lo e i z sz bytes ht hi hz hsize hby hzs hsz v ys.length _ ho ⟨b, o, none⟩ zs.length cap (zs.flatMap enc) (length_flatMap henc zs) (hs.flat hsz henc) hone hlen hmax hbytes hlo w.heap.size rfl
    refine ⟨_, w5, hrun, ?_, hgr5, fun x hx => by cases hx; exact hat5⟩
    unfold OwnSl
    rw [List.length_append, List.flatMap_append]
    exact hown5
theorem grown_self {w w2 : World} {r : Option Nat} (h : w.grownBy w2 r) : w.heap.size ≤ w2.heap.size ∧ ∀ k, k < w.heap.size → some k ≠ r → w2.heap[k]? = w.heap[k]? := ⟨h.size, h.block⟩
end Go.Proofs.YtfcbbahlhjdefaaDoor
namespace Go.Proofs.YtfcbbahlhjdefaaDoor
open Go.RowKit
/-- A list of rules that lies in no block of P. -/
def RuV (P : Nat → Prop) (w : World) (v : Value) (rs : List Ru) : Prop := ∃ qs, SlV P 3 RR.enc w v qs ∧ All2 (fun (q : RR) (r : Ru) => SlV P 4 Te.enc w q.s r.ts ∧ q.act = r.act ∧ q.ch = r.ch) qs rs
theorem RuV.keep {P P' : Nat → Prop} {w w' : World} {v : Value} {rs : List Ru} (h : RuV P w v rs) (hz : w.heap.size ≤ w'.heap.size) (hk : ∀ k, k < w.heap.size → ¬ P k → w'.heap[k]? = w.heap[k]? ∧ ¬ P' k) : RuV P' w' v rs :=
  let ⟨qs, h1, h2⟩ := h
  ⟨qs, h1.keep hz hk, h2.mono (fun _ _ g => ⟨g.1.keep hz hk, g.2⟩)⟩
theorem RuV.sub {P P' : Nat → Prop} {w : World} {v : Value} {rs : List Ru} (h : RuV P w v rs) (hP : ∀ k, P' k → P k) : RuV P' w v rs := h.keep (Nat.le_refl _) (fun k _ k2 => ⟨rfl, fun e => k2 (hP k e)⟩)
theorem RuV.rus {P : Nat → Prop} {w : World} {v : Value} {rs : List Ru} (h : RuV P w v rs) : Rus 0 w v rs :=
  let ⟨qs, h1, h2⟩ := h
  ⟨qs, h1.1, h2.mono (fun _ _ g => ⟨g.1.1, g.2⟩)⟩
/-- Rules in a list of the drawing's own; what they hold lies in no block of P, nor in the list's. -/
def RuW (P : Nat → Prop) (lo : Nat) (w : World) (v : Value) (rs : List Ru) : Prop := ∃ qs, OwnSl lo 34 3 RR.enc w v qs ∧ (∀ z, v.ownBlock = some z → ¬ P z) ∧ All2 (fun (q : RR) (r : Ru) => SlV (fun k => some k = v.ownBlock ∨ P k) 4 Te.enc w q.s r.ts ∧ q.act = r.act ∧ q.ch = r.ch) qs rs
theorem RuW.keep {P P' : Nat → Prop} {lo : Nat} {w w' : World} {v : Value} {rs : List Ru} (h : RuW P lo w v rs) (hz : w.heap.size ≤ w'.heap.size) (hk : ∀ k, k < w.heap.size → ¬ P k → w'.heap[k]? = w.heap[k]? ∧ ¬ P' k) : RuW P' lo w' v rs := by
  obtain ⟨qs, h1, h2, h3⟩ := h
  refine ⟨qs, OwnSl.keepB h1 (fun z z1 _ z3 => (hk z z3 (h2 z z1)).1), fun z hz2 => (hk z (World.ownsRow.lt h1 z hz2).2 (h2 z hz2)).2, h3.mono (fun _ _ g => ⟨g.1.keep hz (fun k k1 k2 => ⟨(hk k k1 (fun e => k2 (.inr e))).1, fun e => ?_⟩), g.2⟩)⟩
  rcases e with e | e
  · exact k2 (.inl e)
  · exact (hk k k1 (fun e => k2 (.inr e))).2 e
theorem RuW.lt {P : Nat → Prop} {lo : Nat} {w : World} {v : Value} {rs : List Ru} (h : RuW P lo w v rs) : ∀ z, v.ownBlock = some z → lo ≤ z ∧ z < w.heap.size := by
  obtain ⟨qs, h1, _⟩ := h
  exact fun z hz => World.ownsRow.lt h1 z hz
theorem RuW.form {P : Nat → Prop} {lo : Nat} {w : World} {v : Value} {rs : List Ru} (h : RuW P lo w v rs) : ∃ a c, v = .slice a rs.length c := by
  obtain ⟨qs, h1, -, h2⟩ := h
  rw [← h2.1]
  rcases OwnSl.form h1 with ⟨h, h'⟩ | ⟨g, c, h, _⟩
  · exact ⟨_, _, by rw [h', h]; rfl⟩
  · exact ⟨_, _, h⟩
theorem RuW.v {P : Nat → Prop} {lo : Nat} {w : World} {v : Value} {rs : List Ru} (h : RuW P lo w v rs) : RuV P w v rs := by
  obtain ⟨qs, h1, h2, h3⟩ := h
  refine ⟨qs, ⟨SlFr.mono (OwnSl.fr (sz := 3) (enc := RR.enc) (fun _ => rfl) h1) (Nat.zero_le _), fun q n c e hne hp => ?_⟩, h3.mono (fun _ _ g => ⟨g.1.sub (fun k hk => .inr hk), g.2⟩)⟩
  rcases OwnSl.form h1 with ⟨_, h'⟩ | ⟨g, c', h', _⟩
  · exact hne h'
  · rw [e] at h'
    obtain ⟨e1, -, -⟩ := Value.slice.inj h'
    cases e1
    exact h2 g (by rw [e]; rfl) hp
theorem RuW.mono {P : Nat → Prop} {lo lo' : Nat} {w : World} {v : Value} {rs : List Ru} (h : RuW P lo w v rs) (hl : lo' ≤ lo) : RuW P lo' w v rs :=
  let ⟨qs, h1, h2, h3⟩ := h
  ⟨qs, OwnSl.mono h1 hl, h2, h3⟩
theorem RuW.mv {P : Nat → Prop} {R lo : Nat} {w w' : World} {v : Value} {rs : List Ru} (h : RuW P lo w v rs) (hm : Mv R w.heap.size w w') (hR : P R) : RuW P lo w' v rs :=
  h.keep hm.size (fun k k1 k2 => ⟨hm.block k k1 (fun e => k2 (by rw [e]; exact hR)), k2⟩)
/-- A rule is put behind. -/
theorem RuW.push {P : Nat → Prop} {lo : Nat} {w : World} {v s : Value} {rs : List Ru} {ts : List Te} {act ch : Int} (ty : TypeId) (h : RuW P lo w v rs) (hs : SlV (fun k => some k = v.ownBlock ∨ P k) 4 Te.enc w s ts) (hb : rs.length ≤ 1000) (hlo : lo ≤ w.heap.size) (hP : ∀ k, P k → k < w.heap.size) :
    ∃ v' w', (Builtin.append_ #[31, 31] ty #[v, .slice (some ⟨w.heap.size, 0, none⟩) 1 1]).run Tryd.prog (w.alloc (.cells #[s, .int .i64 act, .int .i64 ch] 34)) = .ok v' w' ∧ RuW P lo w' v' (rs ++ [⟨ts, act, ch⟩]) ∧ (w.heap.size ≤ w'.heap.size ∧ ∀ k, k < w.heap.size → some k ≠ v.ownBlock → w'.heap[k]? = w.heap[k]?) ∧ (∀ z, v'.ownBlock = some z → v.ownBlock = some z ∨ w.heap.size ≤ z) ∧ Below lo w w' := by
  obtain ⟨i0, hi, hy0, hy1, hy2⟩ := info_parts infoRu
  obtain ⟨qs, h1, h2, h3⟩ := h
  have hal : Below w.heap.size w (w.alloc (.cells #[s, .int .i64 act, .int .i64 ch] 34)) := (Below.refl _ _).alloc (Nat.le_refl _) _
  have e1 := h3.1
  obtain ⟨sa, sn, sc, hsf⟩ : ∃ a n c, s = Value.slice a n c := by
    obtain ⟨⟨a, cap, rfl, _⟩, _⟩ := hs
    exact ⟨_, _, _, rfl⟩
  have hlit : SlAt 3 RR.enc (w.alloc (.cells #[s, .int .i64 act, .int .i64 ch] 34)) (.slice (some ⟨w.heap.size, 0, none⟩) 1 1) [⟨s, act, ch⟩] := by
    refine ⟨_, 1, rfl, by simp, by simp [maxLen], fun k x hk => ?_⟩
    match k, hk with
    | 0, hk =>
      cases hk
      refine ⟨w.heap.size, 0, rfl, by simp, fun j u hj => ?_⟩
      have := cellsNew w (RR.enc ⟨s, act, ch⟩) 34 j u hj
      rwa [Addr.add_lit] at this
    | k + 1, hk => simp at hk
  have hone : ∀ u ∈ [(⟨s, act, ch⟩ : RR)].flatMap RR.enc, u.oneCell' = true := fun u hu => by
    simp only [List.flatMap_cons, List.flatMap_nil, List.append_nil, RR.enc, List.mem_cons, List.not_mem_nil, or_false] at hu
    rcases hu with rfl | rfl | rfl
    · rw [hsf]; rfl
    · rfl
    · rfl
  obtain ⟨v', w', hrun, hown, hgr, hat⟩ := own_append_all (sz := 3) (enc := RR.enc) (by omega) (fun _ => rfl) (P := Tryd.prog) 31 ty 34 i0 _ 40 Tryd.underlying31 hi hy0 hy1 hy2 rfl hone (OwnSl.kept h1 hal) hlit (by simp; omega) (by simp only [maxLen, List.length_cons, List.length_nil]; omega) (by simp; omega)
  have hsz : (w.alloc (.cells #[s, .int .i64 act, .int .i64 ch] 34)).heap.size = w.heap.size + 1 := by simp
  have hz := hgr.size
  have hblk : ∀ k, k < w.heap.size → some k ≠ v.ownBlock → w'.heap[k]? = w.heap[k]? := fun k k1 k2 => (hgr.block k (by omega) k2).trans (hal.block k k1)
  have hat2 : ∀ z, v'.ownBlock = some z → v.ownBlock = some z ∨ w.heap.size ≤ z := fun z hz2 => (hat z hz2).imp id (fun e => by omega)
  have key : ∀ k, k < w.heap.size → ¬ (some k = v.ownBlock ∨ P k) → w'.heap[k]? = w.heap[k]? ∧ ¬ (some k = v'.ownBlock ∨ P k) := fun k k1 k2 => ⟨hblk k k1 (fun e => k2 (.inl e)), fun e => by
    rcases e with e | e
    · rcases hat2 k e.symm with h | h
      · exact k2 (.inl h.symm)
      · omega
    · exact k2 (.inr e)⟩
  refine ⟨v', w', hrun, ⟨qs ++ [⟨s, act, ch⟩], hown, fun z hz2 hp => ?_, ?_⟩, ⟨by omega, hblk⟩, hat2, (hal.mono hlo).trans ((Below.refl _ _).grown hgr (by omega) (fun z hz => (World.ownsRow.lt h1 z hz).1))⟩
  · rcases hat2 z hz2 with e | e
    · exact h2 z e hp
    · have := hP z hp; omega
  · exact (h3.mono (fun _ _ g => ⟨g.1.keep (by omega) key, g.2⟩)).snoc ⟨hs.keep (by omega) key, rfl, rfl⟩
theorem SlV.none {α : Type} {P : Nat → Prop} {sz : Nat} {enc : α → List Value} (w : World) : SlV P sz enc w (.slice none 0 0) ([] : List α) :=
  ⟨⟨_, _, rfl, Nat.le_refl _, Nat.zero_le _, fun k x hk => by simp at hk⟩, fun q n c e => by simp at e⟩
def TsOk (rs : List Ru) : Prop := ∀ r, r ∈ rs → TLen r.ts
theorem TsOk.snoc {rs : List Ru} (h : TsOk rs) {r : Ru} (hr : TLen r.ts) : TsOk (rs ++ [r]) := fun x hx => by
  rcases List.mem_append.1 hx with hx | hx
  · exact h x hx
  · rw [List.mem_singleton.1 hx]; exact hr
/-- How many rules were drawn with n. -/
def RLen (n : Int) (rs : List Ru) : Prop := rs.length ≤ 9 ∧ (n = 0 → rs.length ≤ 4) ∧ (rusvalid rs = true → rs.length ≤ 5)
def DrawnRus (R : Nat) (bs : List Int) (p : Nat) (n : Int) (w : World) (e : Ending) (w' : World) : Prop :=
  ∃ v rs q, e = .returned v ∧ RuW (fun k => k < w.heap.size) w.heap.size w' v rs ∧ RLen n rs ∧ TsOk rs ∧ RdAt R bs w' q ∧ q ≤ p + 4700 ∧ Mv R w.heap.size w w'
set_option maxHeartbeats 4000000 in
set_option maxRecDepth 100000 in
theorem drawRus_any (R : Nat) (bs : List Int) (p : Nat) (first chains n : Int) (h1 : 0 ≤ first ∧ first ≤ 10) (h2 : 0 ≤ chains ∧ chains ≤ 10) (hn : n = 0 ∨ n = 1) (w : World) (h : RdAt R bs w p) (hp : p ≤ 680000) :
    Calls Tryd.prog 41 #[.pointer (some ⟨R, 0, none⟩), .int .i64 first, .int .i64 chains, .int .i64 n] w (DrawnRus R bs p n w) := by
  have hR := h.lt
  obtain ⟨W, hW⟩ : ∃ W, w.alloc (.cells #[] 34) = W := ⟨_, rfl⟩
  have hal : Below w.heap.size w W := by rw [← hW]; exact (Below.refl _ _).alloc (Nat.le_refl _) _
  have HO0 := Lib.hid (show RuW (fun k => k < w.heap.size) w.heap.size W (.slice (some ⟨w.heap.size, 0, none⟩) 0 0) [] from ⟨[], by rw [← hW]; exact litOwn 34 3 RR.enc (Nat.le_refl _), fun z hz hp => by have h9 : z = w.heap.size := (by simpa [Value.ownBlock] using hz.symm); omega, All2.nil⟩)
  have hr0 := h.below hal
  go_enter Tryd.func41, Tryd.ntmps41
  go_wp2_with fail
  clear hW
  refine (pick_any R bs p _ W hr0 (by omega) (by omega)).mono ?_
  rintro e w1 ⟨x1, rfl, a1, b1, -, hr1, hm1⟩
  have hx1 := b1 (by omega)
  have hq1 : Mv R w.heap.size w w1 := (Mv.of_below hal).trans (hm1.mono hal.size)
  have HO1 := Lib.hid (HO0.out.mv hm1 hR)
  clear HO0 hr0 hm1 h
  go_wp2_with fail
  go_loopw [9, 10] (fun v i wr => ∃ rs k q, i = .int .i64 k ∧ k ≤ 4 ∧ 0 ≤ k ∧ Hid (RuW (fun k => k < w.heap.size) w.heap.size wr v rs) ∧ Hid ((rs.length : Int) + k ≤ 4) ∧ Hid (TsOk rs) ∧ RdAt R bs wr q ∧ (q : Int) + 921 * k ≤ p + 3690 ∧ Mv R w.heap.size w wr) (fun _ i _ => (intOf i).toNat)
  case atStart => exact ⟨[], x1, p + 1, rfl, by omega, a1, HO1, Lib.hid (by simp; omega), Lib.hid (fun r h => by cases h), hr1, by omega, hq1⟩
  case round =>
    obtain ⟨rs, k, q, rfl, hk4, hk0, HO, HL, HT, hr, hq, hmr⟩ := hrel
    have hzr := hmr.size
    clear HO1 hr1 hq1 b1
    obtain ⟨oa, oc, hov⟩ := HO.out.form
    obtain ⟨on, hon⟩ : ∃ on, rs.length = on := ⟨_, rfl⟩
    rw [hon] at hov
    subst hov
    have HON := Lib.hid hon
    clear hon
    by_cases hk : 0 < k
    · go_wp2_with fail
      refine (drawRu_any R bs q first chains 0 h1 h2 (.inl rfl) _ hr (by omega)).mono ?_
      rintro e w2 ⟨tv, ts, act, ch, q2, rfl, ho2, hl2, hr2, hq2, hm2⟩
      have hz2 := hm2.size
      have HO2 := Lib.hid (HO.out.mv hm2 hR)
      obtain ⟨ta, tn, tc, htv⟩ : ∃ a n c, tv = Value.slice a n c := by
        rcases OwnSl.form ho2 with ⟨h, _⟩ | ⟨g, c, h, _⟩
        · exact ⟨_, _, _, h⟩
        · exact ⟨_, _, _, h⟩
      subst htv
      obtain ⟨v5, w5, hrun, hO5, -, -, hB5⟩ := HO2.out.push (act := act) (ch := ch) 31 (SlV.high (OwnSl.fr (sz := 4) (enc := Te.enc) (fun _ => rfl) ho2) (fun k hk => by
        rcases hk with e | e
        · exact (HO.out.lt k e.symm).2
        · omega)) (by have := HL.out; omega) (by omega) (fun k hk => by omega)
      have HO5 := Lib.hid hO5
      have hr5 : RdAt R bs w5 q2 := hr2.up (hB5.mono (by omega))
      have hm5 : Mv R w.heap.size w w5 := (hmr.trans (hm2.mono hzr)).trans (Mv.of_below hB5)
      have HL5 := Lib.hid (show ((rs ++ [(⟨ts, act, ch⟩ : Ru)]).length : Int) + (k - 1) ≤ 4 by have := HL.out; simp; omega)
      have HT5 := Lib.hid (HT.out.snoc (r := ⟨ts, act, ch⟩) hl2)
      clear ho2 hO5 hm2
      go_wp2_with (at_builtin; refine wpList_append_run rfl _ _ 31 rfl rfl rfl hrun ?_)
      go_roundw
      case rel => exact ⟨_, k - 1, q2, by go_num, by omega, by omega, HO5, HL5, HT5, hr5, by omega, hm5⟩
      case measure => simp [intOf]; omega
    · obtain rfl : k = 0 := by omega
      have HL4 := Lib.hid (show rs.length ≤ 4 by have := HL.out; omega)
      go_wp2_with fail
      refine (odd_nb R bs _ _ _ hr (by omega) hn).mono ?_
      rintro e w2 ⟨bo, q2, rfl, hbz, -, hr2, hq2, hm2⟩
      have HBZ := Lib.hid hbz
      clear hbz
      have hz2 := hm2.size
      have HO2 := Lib.hid (HO.out.mv hm2 hR)
      have hmr2 := hmr.trans (hm2.mono hzr)
      clear hm2
      cases bo
      · go_wp2
        go_ret
        exact ⟨_, rs, q2, rfl, HO2.out, ⟨by have := HL4.out; omega, fun _ => HL4.out, fun _ => by have := HL4.out; omega⟩, HT.out, hr2, by omega, hmr2⟩
      · go_wp2_with fail
        refine (pick_any R bs _ _ _ hr2 (by omega) (by omega)).mono ?_
        rintro e w3 ⟨x3, rfl, x30, x31, -, hr3, hm3⟩
        have hx3 := x31 (by omega)
        have hz3 := hm3.size
        have HO3 := Lib.hid (HO2.out.mv hm3 hR)
        have hmr3 := hmr2.trans (hm3.mono (by omega))
        clear hm3 x31
        rcases (by omega : x3 = 0 ∨ x3 = 1) with rfl | rfl
        · go_wp2_with fail
          refine (drawRu_any R bs _ first chains 1 h1 h2 (.inr rfl) _ hr3 (by omega)).mono ?_
          rintro e w4 ⟨tv, ts, act, ch, q4, rfl, ho4, hl4, hr4, hq4, hm4⟩
          have hz4 := hm4.size
          have HO4 := Lib.hid (HO3.out.mv hm4 hR)
          obtain ⟨ta, tn, tc, htv⟩ : ∃ a n c, tv = Value.slice a n c := by
            rcases OwnSl.form ho4 with ⟨h, _⟩ | ⟨g, c, h, _⟩
            · exact ⟨_, _, _, h⟩
            · exact ⟨_, _, _, h⟩
          subst htv
          obtain ⟨v5, w5, hrun, hO5, -, -, hB5⟩ := HO4.out.push (act := act) (ch := ch) 31 (SlV.high (OwnSl.fr (sz := 4) (enc := Te.enc) (fun _ => rfl) ho4) (fun k hk => by
            rcases hk with e | e
            · exact (HO3.out.lt k e.symm).2
            · omega)) (by have := HL4.out; omega) (by omega) (fun k hk => by omega)
          have HO5 := Lib.hid hO5
          have hr5 : RdAt R bs w5 q4 := hr4.up (hB5.mono (by omega))
          have hm5 : Mv R w.heap.size w w5 := (hmr3.trans (hm4.mono (by omega))).trans (Mv.of_below hB5)
          have HT5 := Lib.hid (HT.out.snoc (r := ⟨ts, act, ch⟩) hl4)
          clear ho4 hO5 hm4
          go_wp2_with (at_builtin; refine wpList_append_run rfl _ _ 31 rfl rfl rfl hrun ?_)
          go_ret
          exact ⟨_, _, q4, rfl, HO5.out, ⟨by have := HL4.out; simp; omega, fun e => absurd (HBZ.out e) (by simp), fun _ => by have := HL4.out; simp; omega⟩, HT5.out, hr5, by omega, hm5⟩
        · go_wp2_with fail
          go_loopw [9] (fun v wx => ∃ rs2, Hid (RuW (fun k => k < w.heap.size) w.heap.size wx v rs2) ∧ Hid (rs2.length ≤ 9) ∧ Hid (TsOk rs2) ∧ RdAt R bs wx (q2 + 1) ∧ Mv R w.heap.size w wx) (fun v _ => 10 - lenV v)
          case atStart => exact ⟨rs, HO3, Lib.hid (by have := HL4.out; omega), HT, hr3, hmr3⟩
          case round =>
            clear HO3 hr3 hmr3 HT HL4
            obtain ⟨rs2, HO, HL, HT, hr9, hm9⟩ := hrel
            have hz9 := hm9.size
            obtain ⟨oa2, oc2, hov⟩ := HO.out.form
            obtain ⟨o2, ho2⟩ : ∃ on, rs2.length = on := ⟨_, rfl⟩
            rw [ho2] at hov
            subst hov
            have HON2 := Lib.hid ho2
            clear ho2
            by_cases h8 : o2 ≤ 8
            · have h8i : (o2 : Int) ≤ 8 := by omega
              obtain ⟨v5, w5, hrun, hO5, -, -, hB5⟩ := HO.out.push (s := .slice none 0 0) (ts := []) (act := 5) (ch := 0) 31 (SlV.none _) (by have := HL.out; omega) (by omega) (fun k hk => by omega)
              obtain ⟨qa, qc, hq5⟩ := hO5.form
              obtain ⟨qn, hqn⟩ : ∃ qn, (rs2 ++ [(⟨[], 5, 0⟩ : Ru)]).length = qn := ⟨_, rfl⟩
              have hqn2 : qn = o2 + 1 := by rw [← hqn, List.length_append, HON2.out]; rfl
              rw [hqn] at hq5
              subst hqn2
              subst hq5
              have HO5 := Lib.hid hO5
              have HL5 := Lib.hid (show (rs2 ++ [(⟨[], 5, 0⟩ : Ru)]).length ≤ 9 by rw [hqn]; omega)
              have HT5 := Lib.hid (HT.out.snoc (r := ⟨[], 5, 0⟩) ⟨by simp, fun _ => by simp⟩)
              have hr5 := hr9.up (hB5.mono (by omega))
              have hm5 : Mv R w.heap.size w w5 := hm9.trans (Mv.of_below hB5)
              clear hO5 hqn
              go_wp2_with (at_builtin; refine wpList_append_run rfl _ _ 31 rfl rfl rfl hrun ?_)
              go_roundw
              case rel => exact ⟨_, HO5, HL5, HT5, hr5, hm5⟩
              case measure => simp [lenV]; omega
            · have h8i : ¬ (o2 : Int) ≤ 8 := by omega
              go_wp2
              go_ret
              exact ⟨_, rs2, _, rfl, HO.out, ⟨HL.out, fun e => absurd (HBZ.out e) (by simp), fun hv => by
                unfold rusvalid at hv
                rw [Bool.and_eq_true, decide_eq_true_eq, HON2.out] at hv
                exact absurd hv.2 (by omega)⟩, HT.out, hr9, by omega, hm9⟩
end Go.Proofs.YtfcbbahlhjdefaaDoor
