/- A region that draws its order, appends behind all other operations and stores what comes out. -/
import Derived.Test.YtfcbbahlhjdefaaDoorRgX
namespace Go.Proofs.YtfcbbahlhjdefaaDoor
open Go.RowKit
section
variable (P : Program) (l : List Oper) (n N : Nat) (W : World) (Fs : List (World → Value → Prop)) (Gp : Nat → World → Value → Prop) (D : World → Prop) (fr : (Nat → Value) → Act)
def StepU (i : Nat) (o : Oper) : Prop := o.guard = none ∧
  (i < n → (∀ (u : Nat → Value) (w : World), Below W.heap.size W w → (∀ j, depOn o j = true → bof Fs j w (u j)) →
    ∀ (Q : Exit → Act → World → Prop) (K : Act → World → Prop), (∀ a' w', a' = (fr u).put o.dst (slotOf o.dst a') → Below w.heap.size w w' → bof Fs i w' (slotOf o.dst a') → K a' w') → o.wp P (fr u) w K Q) ∧ (reachB l (n + 1) n i = true ∨
    ∀ (u : Nat → Value) (w : World), (∀ j, depOn o j = true → Gp j w (u j)) → ∀ (Q : Exit → Act → World → Prop) (K : Act → World → Prop), (∀ a', a' = (fr u).put o.dst (slotOf o.dst a') → Gp i w (slotOf o.dst a') → K a' w) → o.wp P (fr u) w K Q)) ∧
  (i = n → (∀ j, depOn o j = true → j < n) ∧ ∀ (u : Nat → Value) (w : World), Below W.heap.size W w → (∀ j, depOn o j = true → bof Fs j w (u j)) →
    ∀ (Q : Exit → Act → World → Prop) (K : Act → World → Prop), (∀ a' w', a' = (fr u).put o.dst (slotOf o.dst a') → (∀ j, j < n → bof Fs j w (u j) → Gp j w' (u j)) → Gp n w' (slotOf o.dst a') → K a' w') → o.wp P (fr u) w K Q) ∧
  (n < i → i + 1 < N → depOn o n = true ∧ ∀ (u : Nat → Value) (w : World), (∀ j, depOn o j = true → Gp j w (u j)) →
    ∀ (Q : Exit → Act → World → Prop) (K : Act → World → Prop), (∀ a', a' = (fr u).put o.dst (slotOf o.dst a') → Gp i w (slotOf o.dst a') → K a' w) → o.wp P (fr u) w K Q) ∧
  (n < i → i + 1 = N → ∀ (u : Nat → Value) (w : World), (∀ j, depOn o j = true → Gp j w (u j)) →
    ∀ (Q : Exit → Act → World → Prop) (K : Act → World → Prop), (∀ a' w', a' = (fr u).put o.dst (slotOf o.dst a') → D w' → K a' w') → o.wp P (fr u) w K Q)
def StepsU : List Oper → Nat → Prop
  | [], _ => True
  | o :: r, i => StepU P l n N W Fs Gp D fr i o ∧ StepsU r (i + 1)
end
section
variable {P : Program} {l : List Oper} {n N : Nat} {W : World} {Fs : List (World → Value → Prop)} {Gp : Nat → World → Value → Prop} {D : World → Prop} {fr : (Nat → Value) → Act}
def CU (n N : Nat) (W : World) (D : World → Prop) (L : List Bool) (w : World) : Prop := L.length = N ∧ (L[n]? = some false → Below W.heap.size W w) ∧ (L[N - 1]? = some true → D w)
def FU (n N : Nat) (Fs : List (World → Value → Prop)) (Gp : Nat → World → Value → Prop) (L : List Bool) (i : Nat) (w : World) (v : Value) : Prop :=
  (i < n → L[n]? = some false → bof Fs i w v) ∧ (L[n]? = some true → L[N - 1]? = some false → Gp i w v)
/-- The last operation waits for all others, and for the append at once. -/
def lastReach (n : Nat) (l : List Oper) : Bool := ((List.range (l.length - 1)).all fun i => reachB l l.length (l.length - 1) i) && (match l[l.length - 1]? with
  | some s => depOn s n
  | none => false)
theorem stepsU_ok (hn : n + 1 < N) (hN : l.length = N) (hla : (∀ i, i < N - 1 → reachB l N (N - 1) i = true) ∧ ∀ s, l[N - 1]? = some s → depOn s n = true) (hst : ∀ i w w' v, Below w.heap.size w w' → bof Fs i w v → bof Fs i w' v) (hdb : ∀ (i : Nat) o, l[i]? = some o → ∀ j, depOn o j = true → j < i) :
    ∀ (r : List Oper) (i : Nat), (∀ k, l[i + k]? = r[k]?) → StepsU P l n N W Fs Gp D fr r i → StepsOk2 P l (CU n N W D) (FU n N Fs Gp) fr r i
  | [], _, _, _ => trivial
  | o :: r, i, hl, h => by
    have hio : l[i]? = some o := hl 0
    have hiN : i < N := by rw [← hN]; exact (List.getElem?_eq_some_iff.1 hio).1
    refine ⟨fun L u w h1 h2 h3 h4 => ⟨fun _ Q K hK => ?_, fun hw => by simp [Region.wanted, h.1.1] at hw⟩, stepsU_ok hn hN hla hst hdb r (i + 1) (fun k => by have := hl (k + 1); rw [List.getElem?_cons_succ] at this; rw [← this]; congr 1; omega) h.2⟩
    have hset : ∀ k, k ≠ i → (L.set i true)[k]? = L[k]? := fun k hk => List.getElem?_set_ne (fun e => hk e.symm)
    have hTF : ∀ k, k < N → L[k]? = some true ∨ L[k]? = some false := fun k hk => by
      have hk2 : k < L.length := by rw [h2.1]; exact hk
      rw [List.getElem?_eq_getElem hk2]
      cases L[k] <;> simp
    obtain ⟨s, hs⟩ : ∃ s, l[N - 1]? = some s := ⟨_, List.getElem?_eq_getElem (by omega)⟩
    have hlast : i < N - 1 → L[N - 1]? = some false := fun hi => by
      rcases hTF (N - 1) (by omega) with ht | hf
      · have := reach_done h4 _ _ _ (hla.1 i hi) ht
        rw [h1] at this; cases this
      · exact hf
    rcases Nat.lt_trichotomy i n with hin | hin | hin
    · have hlf := hlast (by omega)
      have hlf2 : (L.set i true)[N - 1]? = some false := by rw [hset _ (by omega)]; exact hlf
      rcases hTF n (by omega) with ht | hnf
      · have hfree := (h.1.2.1 hin).2.resolve_left (fun hr => by
          have := reach_done h4 _ _ _ hr ht
          rw [h1] at this; cases this)
        have hnt : (L.set i true)[n]? = some true := by rw [hset n (by omega)]; exact ht
        refine hfree u w (fun j hj => (h3 j hj).2.2 ht hlf) Q K (fun a' ha hG => ?_)
        exact hK a' w ha ⟨by rw [List.length_set]; exact h2.1, (fun hf => by rw [hnt] at hf; cases hf), fun ht2 => by rw [hlf2] at ht2; cases ht2⟩ ⟨fun _ hf => (by rw [hnt] at hf; cases hf), fun _ _ => hG⟩ (fun j hj hLj hx => ⟨fun _ hf => (by rw [hnt] at hf; cases hf), fun _ _ => hx.2 ht hlf⟩)
      · have hB := h2.2.1 hnf
        have hnf2 : (L.set i true)[n]? = some false := by rw [hset n (by omega)]; exact hnf
        refine (h.1.2.1 hin).1 u w hB (fun j hj => (h3 j hj).2.1 (Nat.lt_trans (hdb i o hio j hj) hin) hnf) Q K (fun a' w' ha hb hF => ?_)
        exact hK a' w' ha ⟨by rw [List.length_set]; exact h2.1, fun _ => hB.trans (hb.mono hB.size), fun ht => by rw [hlf2] at ht; cases ht⟩ ⟨fun _ _ => hF, fun ht => by rw [hnf2] at ht; cases ht⟩ (fun j hj hLj hx => ⟨fun hjn _ => hst j _ _ _ hb (hx.1 hjn hnf), fun ht => by rw [hnf2] at ht; cases ht⟩)
    · subst hin
      have hB := h2.2.1 h1
      have hlf := hlast (by omega)
      have hlf2 : (L.set i true)[N - 1]? = some false := by rw [hset _ (by omega)]; exact hlf
      obtain ⟨hd, hstep⟩ := h.1.2.2.1 rfl
      refine hstep u w hB (fun j hj => (h3 j hj).2.1 (hd j hj) h1) Q K (fun a' w' ha hGs hG => ?_)
      have hnt : (L.set i true)[i]? = some true := List.getElem?_set_self (List.getElem?_eq_some_iff.1 h1).1
      refine hK a' w' ha ⟨by rw [List.length_set]; exact h2.1, (fun hf => by rw [hnt] at hf; cases hf), fun ht => by rw [hlf2] at ht; cases ht⟩ ⟨fun hlt => absurd hlt (by omega), fun _ _ => hG⟩ (fun j hj hLj hx => ⟨fun _ hf => (by rw [hnt] at hf; cases hf), fun _ _ => ?_⟩)
      by_cases hji : j < i
      · exact hGs j hji (hx.1 hji h1)
      · exfalso
        have hjl : j < N := by rw [← h2.1]; exact (List.getElem?_eq_some_iff.1 hLj).1
        by_cases hjN : j = N - 1
        · rw [hjN, hlf] at hLj; cases hLj
        · obtain ⟨p, hp⟩ : ∃ p, l[j]? = some p := ⟨_, List.getElem?_eq_getElem (by omega)⟩
          have hk : r[j - (i + 1)]? = some p := by
            have := hl (j - i)
            rw [show i + (j - i) = j by omega, hp, show j - i = (j - (i + 1)) + 1 by omega, List.getElem?_cons_succ] at this
            exact this.symm
          have aux : ∀ (r : List Oper) (m k : Nat) (p : Oper), r[k]? = some p → StepsU P l i N W Fs Gp D fr r m → StepU P l i N W Fs Gp D fr (m + k) p := by
            intro r
            induction r with
            | nil => intro m k p h _; simp at h
            | cons q r ih =>
              intro m k p hk hs
              cases k with
              | zero => simp at hk; subst hk; exact hs.1
              | succ k =>
                have := ih (m + 1) k p (by simpa using hk) hs.2
                rwa [show m + 1 + k = m + (k + 1) by omega] at this
          have hsp := aux r (i + 1) _ p hk h.2
          rw [show i + 1 + (j - (i + 1)) = j by omega] at hsp
          have := h4 j p hp hLj i (hsp.2.2.2.1 (by omega) (by omega)).1
          rw [h1] at this; cases this
    · by_cases hiN1 : i + 1 < N
      · obtain ⟨hd, hstep⟩ := h.1.2.2.2.1 hin hiN1
        have ht := (h3 n hd).1
        have hlf := hlast (by omega)
        have hlf2 : (L.set i true)[N - 1]? = some false := by rw [hset _ (by omega)]; exact hlf
        have hnt : (L.set i true)[n]? = some true := by rw [hset n (by omega)]; exact ht
        refine hstep u w (fun j hj => (h3 j hj).2.2 ht hlf) Q K (fun a' ha hG => ?_)
        exact hK a' w ha ⟨by rw [List.length_set]; exact h2.1, (fun hf => by rw [hnt] at hf; cases hf), fun ht => by rw [hlf2] at ht; cases ht⟩ ⟨fun hlt => absurd hlt (by omega), fun _ _ => hG⟩ (fun j hj hLj hx => ⟨fun _ hf => (by rw [hnt] at hf; cases hf), fun _ _ => hx.2 ht hlf⟩)
      · have hiN2 : i + 1 = N := by omega
        have hi' : i = N - 1 := by omega
        have hso : s = o := by rw [hi', hs] at hio; exact Option.some.inj hio
        subst hso
        have hlf : L[N - 1]? = some false := by rw [← hi']; exact h1
        have hdn : L[n]? = some true := (h3 n (hla.2 s hs)).1
        have hlt : (L.set i true)[N - 1]? = some true := by rw [← hi']; exact List.getElem?_set_self (List.getElem?_eq_some_iff.1 h1).1
        have hnt : (L.set i true)[n]? = some true := by rw [hset n (by omega)]; exact hdn
        refine h.1.2.2.2.2 hin hiN2 u w (fun j hj => (h3 j hj).2.2 hdn hlf) Q K (fun a' w' ha hD => ?_)
        exact hK a' w' ha ⟨by rw [List.length_set]; exact h2.1, (fun hf => by rw [hnt] at hf; cases hf), fun _ => hD⟩ ⟨fun hlt => absurd hlt (by omega), fun _ hf => by rw [hlt] at hf; cases hf⟩ (fun j hj hLj hx => ⟨fun _ hf => (by rw [hnt] at hf; cases hf), fun _ hf => by rw [hlt] at hf; cases hf⟩)
theorem wp_region_u {id : Nat} {Q : Exit → Act → World → Prop} {a0 : Act} (n N : Nat) (Fs : List (World → Value → Prop)) (Gp : Nat → World → Value → Prop) (D : World → Prop)
    (hm : P.follows .mixedOrders = true) (hn : n + 1 < N) (hN : l.length = N) (hfr : ∀ u, frU u l 0 a0 = fr u) (hd : (dstsApart l && depsBefore l 0) = true) (hla : lastReach n l = true)
    (hst : BAll Fs) (hs : StepsU P l n N W Fs Gp D fr l 0)
    (hend : ∀ u w', D w' → Q .normal (fr u) w') : (Code.region id l.toArray true).wp P Q a0 W := by
  have hdb := hd
  rw [Bool.and_eq_true] at hdb
  have hla' : (∀ i, i < N - 1 → reachB l N (N - 1) i = true) ∧ ∀ s, l[N - 1]? = some s → depOn s n = true := by
    unfold lastReach at hla
    rw [Bool.and_eq_true, hN] at hla
    refine ⟨fun i hi => (List.all_eq_true.1 hla.1) i (List.mem_range.2 hi), fun s hs => ?_⟩
    have h2 := hla.2
    rw [hs] at h2
    exact h2
  refine wp_region_rel2 (CU n N W D) (FU n N Fs Gp) hm hfr hd ⟨by simp [hN], fun _ => ⟨rfl, rfl, rfl, Nat.le_refl _, fun _ _ => rfl⟩, fun h => ?_⟩ (stepsU_ok hn hN hla' (fun i w w' v hb h => bof_stb Fs hst i w w' v hb h) (fun i o hio j hj => by have := depsBefore_at l 0 hdb.2 i o hio j hj; omega) l 0 (fun k => by rw [Nat.zero_add]) hs) (fun L u w' hL hC _ => hend u w' (hC.2.2 (hL _ (by omega))))
  rw [List.getElem?_replicate] at h
  split at h <;> cases h
/-- A step before. -/
theorem stU {i : Nat} {o : Oper} (hg : o.guard = none) (hin : i < n) (hr : reachB l (n + 1) n i = true)
    (h : ∀ (u : Nat → Value) (w : World), Below W.heap.size W w → (∀ j, depOn o j = true → bof Fs j w (u j)) →
      ∀ (Q : Exit → Act → World → Prop) (K : Act → World → Prop), (∀ a' w', a' = (fr u).put o.dst (slotOf o.dst a') → Below w.heap.size w w' → bof Fs i w' (slotOf o.dst a') → K a' w') → o.wp P (fr u) w K Q) :
    StepU P l n N W Fs Gp D fr i o := ⟨hg, fun _ => ⟨h, .inl hr⟩, fun e => absurd e (by omega), fun e => absurd e (by omega), fun e => absurd e (by omega)⟩
theorem stUf {i : Nat} {o : Oper} (hg : o.guard = none) (hin : i < n)
    (h : ∀ (u : Nat → Value) (w : World), Below W.heap.size W w → (∀ j, depOn o j = true → bof Fs j w (u j)) →
      ∀ (Q : Exit → Act → World → Prop) (K : Act → World → Prop), (∀ a' w', a' = (fr u).put o.dst (slotOf o.dst a') → Below w.heap.size w w' → bof Fs i w' (slotOf o.dst a') → K a' w') → o.wp P (fr u) w K Q)
    (h2 : ∀ (u : Nat → Value) (w : World), (∀ j, depOn o j = true → Gp j w (u j)) → ∀ (Q : Exit → Act → World → Prop) (K : Act → World → Prop), (∀ a', a' = (fr u).put o.dst (slotOf o.dst a') → Gp i w (slotOf o.dst a') → K a' w) → o.wp P (fr u) w K Q) :
    StepU P l n N W Fs Gp D fr i o := ⟨hg, fun _ => ⟨h, .inr h2⟩, fun e => absurd e (by omega), fun e => absurd e (by omega), fun e => absurd e (by omega)⟩
theorem stUt {o : Oper} (hg : o.guard = none) (hd : (o.after.toList.all fun e => decide (e.on < n)) = true)
    (h : ∀ (u : Nat → Value) (w : World), Below W.heap.size W w → (∀ j, depOn o j = true → bof Fs j w (u j)) →
      ∀ (Q : Exit → Act → World → Prop) (K : Act → World → Prop), (∀ a' w', a' = (fr u).put o.dst (slotOf o.dst a') → (∀ j, j < n → bof Fs j w (u j) → Gp j w' (u j)) → Gp n w' (slotOf o.dst a') → K a' w') → o.wp P (fr u) w K Q) :
    StepU P l n N W Fs Gp D fr n o := ⟨hg, fun e => absurd e (by omega), fun _ => ⟨depsBelow hd, h⟩, fun e => absurd e (by omega), fun e => absurd e (by omega)⟩
theorem stUb {i : Nat} {o : Oper} (hg : o.guard = none) (hin : n < i) (hiN : i + 1 < N) (hd : depOn o n = true)
    (h : ∀ (u : Nat → Value) (w : World), (∀ j, depOn o j = true → Gp j w (u j)) → ∀ (Q : Exit → Act → World → Prop) (K : Act → World → Prop), (∀ a', a' = (fr u).put o.dst (slotOf o.dst a') → Gp i w (slotOf o.dst a') → K a' w) → o.wp P (fr u) w K Q) :
    StepU P l n N W Fs Gp D fr i o := ⟨hg, fun e => absurd e (by omega), fun e => absurd e (by omega), fun _ _ => ⟨hd, h⟩, fun _ e => absurd e (by omega)⟩
theorem stUl {i : Nat} {o : Oper} (hg : o.guard = none) (hin : n < i) (hiN : i + 1 = N)
    (h : ∀ (u : Nat → Value) (w : World), (∀ j, depOn o j = true → Gp j w (u j)) → ∀ (Q : Exit → Act → World → Prop) (K : Act → World → Prop), (∀ a' w', a' = (fr u).put o.dst (slotOf o.dst a') → D w' → K a' w') → o.wp P (fr u) w K Q) :
    StepU P l n N W Fs Gp D fr i o := ⟨hg, fun e => absurd e (by omega), fun e => absurd e (by omega), fun _ e => absurd e (by omega), fun _ _ => h⟩
end
end Go.Proofs.YtfcbbahlhjdefaaDoor
