/- A box cut by a box: the reference's walk. -/
import Derived.Test.YtajcogpfmpehkaaDoorRgCL
import Derived.Test.YtajcogpfmpehkaaDoorFsM
import Derived.Test.YtajcogpfmpehkaaDoorFnX
import Derived.Test.YtajcogpfmpehkaaDoorDt
import Derived.Test.YtajcogpfmpehkaaDoorRgX
import Derived.Deep.DeepCutAuto
namespace Go.Proofs.YtajcogpfmpehkaaDoor
open Go.RowKit
/-- A list in memory that no block of P holds. -/
def SlV {α : Type} (P : Nat → Prop) (sz : Nat) (enc : α → List Value) (w : World) (v : Value) (xs : List α) : Prop := SlFr 0 sz enc w v xs ∧ ∀ q n c, v = .slice (some q) n c → xs ≠ [] → ¬ P q.block
section
variable {α : Type} {P P' : Nat → Prop} {sz : Nat} {enc : α → List Value}
theorem SlV.keep {w w' : World} {v : Value} {xs : List α} (h : SlV P sz enc w v xs) (hz : w.heap.size ≤ w'.heap.size) (hk : ∀ k, k < w.heap.size → ¬ P k → w'.heap[k]? = w.heap[k]? ∧ ¬ P' k) : SlV P' sz enc w' v xs := by
  obtain ⟨⟨a, cap, rfl, h1, h2, hx⟩, hp⟩ := h
  refine ⟨⟨a, cap, rfl, h1, h2, fun k x hk' => ?_⟩, fun q n c e hne => ?_⟩
  · obtain ⟨b, o, ha, h3, h4, hc⟩ := hx k x hk'
    subst ha
    have hP := hp _ _ _ rfl (by intro e; subst e; simp at hk')
    exact ⟨b, o, rfl, h3, by omega, fun j u hj => (World.cell?_of_block (hk b h4 hP).1).trans (hc j u hj)⟩
  · obtain ⟨x, hx0⟩ : ∃ x, xs[0]? = some x := ⟨_, List.getElem?_eq_getElem (List.length_pos_iff.2 hne)⟩
    obtain ⟨b, o, ha, h3, h4, hc⟩ := hx 0 x hx0
    subst ha
    obtain ⟨e1, -, -⟩ := Value.slice.inj e
    cases e1
    exact (hk b h4 (hp _ _ _ rfl hne)).2
theorem SlV.high {lo : Nat} {w : World} {v : Value} {xs : List α} (h : SlFr lo sz enc w v xs) (hP : ∀ k, P k → k < lo) : SlV P sz enc w v xs := by
  refine ⟨h.mono (Nat.zero_le _), fun q n c e hne hp => ?_⟩
  obtain ⟨a, cap, rfl, h1, h2, hx⟩ := h
  obtain ⟨x, hx0⟩ : ∃ x, xs[0]? = some x := ⟨_, List.getElem?_eq_getElem (List.length_pos_iff.2 hne)⟩
  obtain ⟨b, o, ha, h3, h4, hc⟩ := hx 0 x hx0
  subst ha
  obtain ⟨e1, -, -⟩ := Value.slice.inj e
  cases e1
  have := hP _ hp
  simp only at this
  omega
theorem SlV.old {lo : Nat} {w0 w : World} {v : Value} {xs : List α} (h : SlFr lo sz enc w0 v xs) (hb : Below w0.heap.size w0 w) (hP : ∀ k, P k → w0.heap.size ≤ k) : SlV P sz enc w v xs := by
  refine ⟨(h.mono (Nat.zero_le _)).below hb, fun q n c e hne hp => ?_⟩
  obtain ⟨a, cap, rfl, h1, h2, hx⟩ := h
  obtain ⟨x, hx0⟩ : ∃ x, xs[0]? = some x := ⟨_, List.getElem?_eq_getElem (List.length_pos_iff.2 hne)⟩
  obtain ⟨b, o, ha, h3, h4, hc⟩ := hx 0 x hx0
  subst ha
  obtain ⟨e1, -, -⟩ := Value.slice.inj e
  cases e1
  have := hP _ hp
  simp only at this
  omega
theorem SlV.sub {w : World} {v : Value} {xs : List α} (h : SlV P sz enc w v xs) (hP : ∀ k, P' k → P k) : SlV P' sz enc w v xs := ⟨h.1, fun q n c e hne hp => h.2 q n c e hne (hP _ hp)⟩
end
/-- A box in memory that no block of P holds. -/
def RwV (P : Nat → Prop) (w : World) (v : Value) (b : Bx) : Prop := ∃ vs, SlV P 1 enc1 w v vs ∧ All2 (SpV P w) vs b
theorem RwV.keep {P P' : Nat → Prop} {w w' : World} {v : Value} {b : Bx} (h : RwV P w v b) (hz : w.heap.size ≤ w'.heap.size) (hk : ∀ k, k < w.heap.size → ¬ P k → w'.heap[k]? = w.heap[k]? ∧ ¬ P' k) : RwV P' w' v b :=
  let ⟨vs, h1, h2⟩ := h
  ⟨vs, h1.keep hz hk, h2.mono (fun _ _ g => g.keep hz hk)⟩
theorem RwV.below {P : Nat → Prop} {w w' : World} {v : Value} {b : Bx} (h : RwV P w v b) (hb : Below w.heap.size w w') : RwV P w' v b := h.keep hb.size (fun k k1 k2 => ⟨hb.block k k1, k2⟩)
theorem RwV.high {P : Nat → Prop} {lo : Nat} {w : World} {v : Value} {b : Bx} (h : Rws lo w v b) (hP : ∀ k, P k → k < lo) : RwV P w v b :=
  let ⟨vs, h1, h2⟩ := h
  ⟨vs, SlV.high h1 hP, h2.mono (fun _ _ g => (SlV.high g hP : SlV P 2 Sp.enc w _ _))⟩
theorem RwV.old {P : Nat → Prop} {lo : Nat} {w0 w : World} {v : Value} {b : Bx} (h : Rws lo w0 v b) (hb : Below w0.heap.size w0 w) (hP : ∀ k, P k → w0.heap.size ≤ k) : RwV P w v b :=
  let ⟨vs, h1, h2⟩ := h
  ⟨vs, SlV.old h1 hb hP, h2.mono (fun _ _ g => (SlV.old g hb hP : SlV P 2 Sp.enc w _ _))⟩
theorem RwV.sub {P P' : Nat → Prop} {w : World} {v : Value} {b : Bx} (h : RwV P w v b) (hP : ∀ k, P' k → P k) : RwV P' w v b :=
  let ⟨vs, h1, h2⟩ := h
  ⟨vs, h1.sub hP, h2.mono (fun _ _ g => g.sub hP)⟩
theorem RwV.rws {P : Nat → Prop} {w : World} {v : Value} {b : Bx} (h : RwV P w v b) : Rws 0 w v b :=
  let ⟨vs, h1, h2⟩ := h
  ⟨vs, h1.1, h2.mono (fun _ _ g => g.1)⟩
/-- Boxes in a list of the call's own under way; they lie in no block of X. -/
def BxX (X : Nat → Prop) (lo : Nat) (w : World) (v : Value) (bs : List Bx) : Prop :=
  ∃ vs, OwnSl lo 32 1 enc1 w v vs ∧ All2 (fun r b => RwV (fun k => some k = v.ownBlock ∨ X k) w r b) vs bs
theorem BxX.bxs {X : Nat → Prop} {lo : Nat} {w : World} {v : Value} {bs : List Bx} (h : BxX X lo w v bs) : Bxs 0 w v bs := by
  obtain ⟨vs, h1, h2⟩ := h
  exact ⟨vs, SlFr.mono (OwnSl.fr (sz := 1) (enc := enc1) (fun _ => rfl) h1) (Nat.zero_le _), h2.mono (fun _ _ g => g.rws)⟩
theorem BxX.below {X : Nat → Prop} {lo : Nat} {w w' : World} {v : Value} {bs : List Bx} (h : BxX X lo w v bs) (hb : Below w.heap.size w w') : BxX X lo w' v bs := by
  obtain ⟨vs, h1, h2⟩ := h
  exact ⟨vs, OwnSl.kept h1 hb, h2.mono (fun _ _ g => g.below hb)⟩
theorem BxX.form {X : Nat → Prop} {lo : Nat} {w : World} {v : Value} {bs : List Bx} (h : BxX X lo w v bs) : ∃ a c, v = .slice a bs.length c := by
  obtain ⟨vs, h1, h2⟩ := h
  rw [← h2.1]
  rcases OwnSl.form h1 with ⟨h, h'⟩ | ⟨g, c, h, _⟩
  · exact ⟨_, _, by rw [h', h]; rfl⟩
  · exact ⟨_, _, h⟩
theorem BxX.push {X : Nat → Prop} {lo H : Nat} {w w2 : World} {v v' : Value} {bs cs : List Bx} {vs ws : List Value} (h2 : All2 (fun r b => RwV (fun k => some k = v.ownBlock ∨ X k) w r b) vs bs)
    (hc : All2 (fun r b => RwV (fun k => some k = v.ownBlock ∨ X k) w r b) ws cs)
    (hg : w.heap.size ≤ w2.heap.size ∧ ∀ k, k < w.heap.size → some k ≠ v.ownBlock → w2.heap[k]? = w.heap[k]?) (hat : ∀ z, v'.ownBlock = some z → v.ownBlock = some z ∨ z = H) (hH : w.heap.size ≤ H)
    (hown : OwnSl lo 32 1 enc1 w2 v' (vs ++ ws)) : BxX X lo w2 v' (bs ++ cs) := by
  have key : ∀ k, k < w.heap.size → ¬ (some k = v.ownBlock ∨ X k) → w2.heap[k]? = w.heap[k]? ∧ ¬ (some k = v'.ownBlock ∨ X k) := fun k k1 k2 => ⟨hg.2 k k1 (fun e => k2 (.inl e)), fun e => by
    rcases e with e | e
    · rcases hat k e.symm with h | h
      · exact k2 (.inl h.symm)
      · omega
    · exact k2 (.inr e)⟩
  refine ⟨vs ++ ws, hown, ?_⟩
  have e1 := h2.mono (S := fun r b => RwV (fun k => some k = v'.ownBlock ∨ X k) w2 r b) (fun _ _ g => g.keep hg.1 key)
  have e2 := hc.mono (S := fun r b => RwV (fun k => some k = v'.ownBlock ∨ X k) w2 r b) (fun _ _ g => g.keep hg.1 key)
  refine ⟨by rw [List.length_append, List.length_append, e1.1, e2.1], fun k x y hx hy => ?_⟩
  by_cases hk : k < vs.length
  · rw [List.getElem?_append_left hk] at hx
    rw [List.getElem?_append_left (by rw [← e1.1]; exact hk)] at hy
    exact e1.2 k x y hx hy
  · rw [List.getElem?_append_right (by omega)] at hx
    rw [List.getElem?_append_right (by rw [← e1.1]; omega), ← e1.1] at hy
    exact e2.2 _ x y hx hy
theorem GRw.ptr {w : World} {lo hi : Nat} {v : Value} {b : Bx} (h : GRw w lo hi v b) (hb : 0 < b.length) : ∃ q cap, v = .slice (some ⟨q, 0, none⟩) b.length cap ∧ lo ≤ q ∧ q < w.heap.size ∧ (∀ o, w.frozen? ⟨q, o, none⟩ = false) ∧ ∀ k, k < b.length → ∃ s, w.cell? ⟨q, k, none⟩ = some s := by
  obtain ⟨q, cap, rfl, h1, h2, h3, h4, h5⟩ := h.bx.ptr hb
  refine ⟨q, cap, rfl, h1, h2, h5, fun k hk => ?_⟩
  obtain ⟨s, xs, hc, _⟩ := h.bx.at hk
  exact ⟨s, hc⟩
end Go.Proofs.YtajcogpfmpehkaaDoor
