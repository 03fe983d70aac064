/- A region that draws its order and turns the world by one operation; those behind wait for it through others. -/
import Derived.Test.YtfcbbahlhjdefaaGreatDoorRgX
namespace Go.Proofs.YtfcbbahlhjdefaaGreatDoor
open Go.RowKit
theorem reach_dep {l : List Oper} {L : List Bool} (hcl : ∀ (j : Nat) o, l[j]? = some o → L[j]? = some true → ∀ k, depOn o k = true → L[k]? = some true) {i n : Nat} {o : Oper} (hi : l[i]? = some o) (hd : ∀ j, depOn o j = true → L[j]? = some true) : ∀ f, reachB l f i n = true → L[n]? = some true
  | 0, h => by simp [reachB] at h
  | f + 1, h => by
    unfold reachB at h
    rw [hi] at h
    simp only [Bool.or_eq_true, List.any_eq_true, Bool.and_eq_true] at h
    rcases h with h | ⟨j, _, h1, h2⟩
    · exact hd n h
    · exact reach_done hcl f j n h2 (hd j h1)
section
variable (P : Program) (l : List Oper) (n : Nat) (W : World) (Fs : List (World → Value → Prop)) (Gp : Nat → World → Value → Prop) (fr : (Nat → Value) → Act) (u0 : Nat → Value)
/-- What is to be shown of operation i: before the one that turns the world (n), of it, behind it. -/
def StepV (i : Nat) (o : Oper) : Prop := o.guard = none ∧
  (i < n → (∀ (u : Nat → Value) (w : World), Below W.heap.size W w → (∀ j, depOn o j = true → bof Fs j w (u j)) → (∀ (j : Nat) o', l[j]? = some o' → depOn o' i = true → u j = u0 j) →
    ∀ (Q : Exit → Act → World → Prop) (K : Act → World → Prop), (∀ a' w', a' = (fr u).put o.dst (slotOf o.dst a') → Below w.heap.size w w' → bof Fs i w' (slotOf o.dst a') → K a' w') → o.wp P (fr u) w K Q) ∧
    (reachB l (n + 1) n i = true ∨ ∀ (u : Nat → Value) (w : World), (∀ j, depOn o j = true → Gp j w (u j)) → ∀ (Q : Exit → Act → World → Prop) (K : Act → World → Prop), (∀ a', a' = (fr u).put o.dst (slotOf o.dst a') → Gp i w (slotOf o.dst a') → K a' w) → o.wp P (fr u) w K Q)) ∧
  (i = n → (∀ j, depOn o j = true → j < n) ∧ ∀ (u : Nat → Value) (w : World), Below W.heap.size W w → (∀ j, depOn o j = true → bof Fs j w (u j)) →
    ∀ (Q : Exit → Act → World → Prop) (K : Act → World → Prop), (∀ a' w', a' = (fr u).put o.dst (slotOf o.dst a') → (∀ j, j < n → bof Fs j w (u j) → Gp j w' (u j)) → Gp n w' (slotOf o.dst a') → K a' w') → o.wp P (fr u) w K Q) ∧
  (n < i → reachB l l.length i n = true ∧ ∀ (u : Nat → Value) (w : World), (∀ j, depOn o j = true → Gp j w (u j)) →
    ∀ (Q : Exit → Act → World → Prop) (K : Act → World → Prop), (∀ a', a' = (fr u).put o.dst (slotOf o.dst a') → Gp i w (slotOf o.dst a') → K a' w) → o.wp P (fr u) w K Q)
def StepsV : List Oper → Nat → Prop
  | [], _ => True
  | o :: r, i => StepV P l n W Fs Gp fr u0 i o ∧ StepsV r (i + 1)
end
section
variable {P : Program} {l : List Oper} {n : Nat} {W : World} {Fs : List (World → Value → Prop)} {Gp : Nat → World → Value → Prop} {fr : (Nat → Value) → Act} {u0 : Nat → Value}
theorem stepsV_at : ∀ (r : List Oper) (m k : Nat) (p : Oper), r[k]? = some p → StepsV P l n W Fs Gp fr u0 r m → StepV P l n W Fs Gp fr u0 (m + k) p
  | [], _, _, _, h, _ => by simp at h
  | q :: r, m, 0, p, h, hs => by
    simp at h
    subst h
    exact hs.1
  | q :: r, m, k + 1, p, h, hs => by
    have := stepsV_at r (m + 1) k p (by simpa using h) hs.2
    rwa [show m + 1 + k = m + (k + 1) by omega] at this
theorem stepsV_ok (hn : n < l.length) (hst : ∀ i w w' v, Below w.heap.size w w' → bof Fs i w v → bof Fs i w' v) (hdb : ∀ (i : Nat) o, l[i]? = some o → ∀ j, depOn o j = true → j < i) (hsA : StepsV P l n W Fs Gp fr u0 l 0) :
    ∀ (r : List Oper) (i : Nat), (∀ k, l[i + k]? = r[k]?) → StepsV P l n W Fs Gp fr u0 r i → StepsOk2I P l (CT n l.length W) (FT n Fs Gp) fr u0 r i
  | [], _, _, _ => trivial
  | o :: r, i, hl, h => by
    have hio : l[i]? = some o := hl 0
    refine ⟨fun L u w h1 h2 h3 h4 h5 => ⟨fun _ Q K hK => ?_, fun hw => by simp [Region.wanted, h.1.1] at hw⟩, stepsV_ok hn hst hdb hsA r (i + 1) (fun k => by have := hl (k + 1); rw [List.getElem?_cons_succ] at this; rw [← this]; congr 1; omega) h.2⟩
    have hset : ∀ k, k ≠ i → (L.set i true)[k]? = L[k]? := fun k hk => List.getElem?_set_ne (fun e => hk e.symm)
    have hLn : L[n]? = some true ∨ L[n]? = some false := by
      have : n < L.length := by rw [h2.1]; exact hn
      rw [List.getElem?_eq_getElem this]
      cases L[n] <;> simp
    have hno : L[n]? = some false → ∀ j, n ≤ j → L[j]? = some true → False := fun hf j hle hLj => by
      rcases Nat.lt_or_eq_of_le hle with hlt | he
      · have hj2 : j < l.length := by
          have := (List.getElem?_eq_some_iff.1 hLj).1
          rw [h2.1] at this; exact this
        obtain ⟨p, hp⟩ : ∃ p, l[j]? = some p := ⟨_, List.getElem?_eq_getElem hj2⟩
        have hsp := stepsV_at l 0 j p hp hsA
        rw [Nat.zero_add] at hsp
        have := reach_done h4 _ _ _ (hsp.2.2.2 hlt).1 hLj
        rw [hf] at this; cases this
      · subst he
        rw [hf] at hLj; cases hLj
    rcases Nat.lt_trichotomy i n with hin | hin | hin
    · rcases hLn with ht | hf
      · rcases (h.1.2.1 hin).2 with hr | hstep
        · have := reach_done h4 _ _ _ hr ht
          rw [h1] at this; cases this
        · have hnt : (L.set i true)[n]? = some true := by rw [hset n (by omega)]; exact ht
          refine hstep u w (fun j hj => (h3 j hj).2.2 ht) Q K (fun a' ha hG => ?_)
          exact hK a' w ha ⟨by rw [List.length_set]; exact h2.1, (fun hf => by rw [hnt] at hf; cases hf)⟩ ⟨fun _ hf => (by rw [hnt] at hf; cases hf), fun _ => hG⟩ (fun j hj hLj hx => ⟨fun _ hf => (by rw [hnt] at hf; cases hf), fun _ => hx.2 ht⟩)
      have hB := h2.2 hf
      have hnf : (L.set i true)[n]? = some false := by rw [hset n (by omega)]; exact hf
      refine (h.1.2.1 hin).1 u w hB (fun j hj => (h3 j hj).2.1 (Nat.lt_trans (hdb i o hio j hj) hin) hf) h5 Q K (fun a' w' ha hb hF => ?_)
      exact hK a' w' ha ⟨by rw [List.length_set]; exact h2.1, fun _ => hB.trans (hb.mono hB.size)⟩ ⟨fun _ _ => hF, fun ht => by rw [hnf] at ht; cases ht⟩ (fun j hj hLj hx => ⟨fun hjn _ => hst j _ _ _ hb (hx.1 hjn hf), fun ht => by rw [hnf] at ht; cases ht⟩)
    · subst hin
      have hB := h2.2 h1
      obtain ⟨hd, hstep⟩ := h.1.2.2.1 rfl
      refine hstep u w hB (fun j hj => (h3 j hj).2.1 (hd j hj) h1) Q K (fun a' w' ha hGs hG => ?_)
      have hnt : (L.set i true)[i]? = some true := List.getElem?_set_self (List.getElem?_eq_some_iff.1 h1).1
      refine hK a' w' ha ⟨by rw [List.length_set]; exact h2.1, (fun hf => by rw [hnt] at hf; cases hf)⟩ ⟨fun hlt => absurd hlt (by omega), fun _ => hG⟩ (fun j hj hLj hx => ⟨fun _ hf => (by rw [hnt] at hf; cases hf), fun _ => ?_⟩)
      by_cases hji : j < i
      · exact hGs j hji (hx.1 hji h1)
      · exact (hno h1 j (by omega) hLj).elim
    · obtain ⟨hd, hstep⟩ := h.1.2.2.2 hin
      have ht := reach_dep h4 hio (fun j hj => (h3 j hj).1) _ hd
      refine hstep u w (fun j hj => (h3 j hj).2.2 ht) Q K (fun a' ha hG => ?_)
      have hnt : (L.set i true)[n]? = some true := by rw [hset n (by omega)]; exact ht
      exact hK a' w ha ⟨by rw [List.length_set]; exact h2.1, (fun hf => by rw [hnt] at hf; cases hf)⟩ ⟨fun hlt => absurd hlt (by omega), fun _ => hG⟩ (fun j hj hLj hx => ⟨fun _ hf => (by rw [hnt] at hf; cases hf), fun _ => hx.2 ht⟩)
/-- A region that draws its order and turns the world by its operation n alone, which waits for all before it. -/
theorem wp_region_turn3 {id : Nat} {Q : Exit → Act → World → Prop} {a0 : Act} (n : Nat) (Fs : List (World → Value → Prop)) (Gp : Nat → World → Value → Prop)
    (hm : P.follows .mixedOrders = true) (hn : n < l.length) (hfr : ∀ u, frU u l 0 a0 = fr u) (hd : (dstsApart l && depsBefore l 0) = true)
    (hst : BAll Fs) (hs : StepsV P l n W Fs Gp fr (fun i => slotOf ((l[i]?).bind (·.dst)) a0) l 0)
    (hend : ∀ u w', (∀ i, i < l.length → Gp i w' (u i)) → Q .normal (fr u) w') : (Code.region id l.toArray true).wp P Q a0 W := by
  have hdb := hd
  rw [Bool.and_eq_true] at hdb
  refine wp_region_rel2I (CT n l.length W) (FT n Fs Gp) hm hfr hd ⟨by simp, fun _ => ⟨rfl, rfl, rfl, Nat.le_refl _, fun _ _ => rfl⟩⟩ (stepsV_ok hn (fun i w w' v hb h => bof_stb Fs hst i w w' v hb h) (fun i o hio j hj => by have := depsBefore_at l 0 hdb.2 i o hio j hj; omega) hs l 0 (fun k => by rw [Nat.zero_add]) hs) (fun L u w' hL _ hF => hend u w' (fun i h2 => (hF i h2).2 (hL n hn)))
end
section
variable {P : Program} {l : List Oper} {n : Nat} {W : World} {Fs : List (World → Value → Prop)} {G : World → Value → Prop} {Gp : Nat → World → Value → Prop} {fr : (Nat → Value) → Act} {u0 : Nat → Value} {i : Nat} {o : Oper}
/-- A step before. -/
theorem stV (hg : o.guard = none) (hin : i < n) (hr : reachB l (n + 1) n i = true)
    (h : ∀ (u : Nat → Value) (w : World), Below W.heap.size W w → (∀ j, depOn o j = true → bof Fs j w (u j)) → (∀ (j : Nat) o', l[j]? = some o' → depOn o' i = true → u j = u0 j) →
      ∀ (Q : Exit → Act → World → Prop) (K : Act → World → Prop), (∀ a' w', a' = (fr u).put o.dst (slotOf o.dst a') → Below w.heap.size w w' → bof Fs i w' (slotOf o.dst a') → K a' w') → o.wp P (fr u) w K Q) :
    StepV P l n W Fs Gp fr u0 i o := ⟨hg, fun _ => ⟨h, .inl hr⟩, fun e => absurd e (by omega), fun e => absurd e (by omega)⟩
/-- The one that turns the world. -/
theorem stVt (hg : o.guard = none) (hd : (o.after.toList.all fun e => decide (e.on < n)) = true)
    (h : ∀ (u : Nat → Value) (w : World), Below W.heap.size W w → (∀ j, depOn o j = true → bof Fs j w (u j)) →
      ∀ (Q : Exit → Act → World → Prop) (K : Act → World → Prop), (∀ a' w', a' = (fr u).put o.dst (slotOf o.dst a') → (∀ j, j < n → bof Fs j w (u j) → Gp j w' (u j)) → Gp n w' (slotOf o.dst a') → K a' w') → o.wp P (fr u) w K Q) :
    StepV P l n W Fs Gp fr u0 n o := ⟨hg, fun e => absurd e (by omega), fun _ => ⟨depsBelow hd, h⟩, fun e => absurd e (by omega)⟩
/-- A step behind. -/
theorem stVb (hg : o.guard = none) (hin : n < i) (hd : reachB l l.length i n = true)
    (h : ∀ (u : Nat → Value) (w : World), (∀ j, depOn o j = true → Gp j w (u j)) → ∀ (Q : Exit → Act → World → Prop) (K : Act → World → Prop), (∀ a', a' = (fr u).put o.dst (slotOf o.dst a') → Gp i w (slotOf o.dst a') → K a' w) → o.wp P (fr u) w K Q) :
    StepV P l n W Fs Gp fr u0 i o := ⟨hg, fun e => absurd e (by omega), fun e => absurd e (by omega), fun _ => ⟨hd, h⟩⟩
end
end Go.Proofs.YtfcbbahlhjdefaaGreatDoor
