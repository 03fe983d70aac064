/- A region that draws its order, moves a reader by one operation (mo), appends behind (n) and stores what comes out. -/
import Derived.Test.YtfcbbahlhjdefaaDoorRgT
namespace Go.Proofs.YtfcbbahlhjdefaaDoor
open Go.RowKit
section
variable (P : Program) (l : List Oper) (n N : Nat) (W : World) (Fs : List (World → Value → Prop)) (Gp : Nat → World → Value → Prop) (D : World → Prop) (E : World → Prop) (fr : (Nat → Value) → Act) (R : Nat) (bs : List Int) (q0 mo : Nat)
def StepM (i : Nat) (o : Oper) : Prop := o.guard = none ∧
  (i < n → (∀ (u : Nat → Value) (w : World), Mv R W.heap.size W w → (i = mo → RdAt R bs w q0) → (∀ j, depOn o j = true → bof Fs j w (u j)) →
    ∀ (Q : Exit → Act → World → Prop) (K : Act → World → Prop), (∀ a' w', a' = (fr u).put o.dst (slotOf o.dst a') → Mv R w.heap.size w w' → (i ≠ mo → Below w.heap.size w w') → bof Fs i w' (slotOf o.dst a') → K a' w') → o.wp P (fr u) w K Q) ∧ (reachB l (n + 1) n i = true ∨
    ∀ (u : Nat → Value) (w : World), (∀ j, depOn o j = true → Gp j w (u j)) → E w → ∀ (Q : Exit → Act → World → Prop) (K : Act → World → Prop), (∀ a', a' = (fr u).put o.dst (slotOf o.dst a') → Gp i w (slotOf o.dst a') → K a' w) → o.wp P (fr u) w K Q)) ∧
  (i = n → (∀ j, depOn o j = true → j < n) ∧ ∀ (u : Nat → Value) (w : World), Mv R W.heap.size W w → (∀ j, depOn o j = true → bof Fs j w (u j)) →
    ∀ (Q : Exit → Act → World → Prop) (K : Act → World → Prop), (∀ a' w', a' = (fr u).put o.dst (slotOf o.dst a') → (∀ j, j < n → bof Fs j w (u j) → Gp j w' (u j)) → Gp n w' (slotOf o.dst a') → E w' → K a' w') → o.wp P (fr u) w K Q) ∧
  (n < i → i + 1 < N → depOn o n = true ∧ ∀ (u : Nat → Value) (w : World), (∀ j, depOn o j = true → Gp j w (u j)) →
    ∀ (Q : Exit → Act → World → Prop) (K : Act → World → Prop), (∀ a', a' = (fr u).put o.dst (slotOf o.dst a') → Gp i w (slotOf o.dst a') → K a' w) → o.wp P (fr u) w K Q) ∧
  (n < i → i + 1 = N → ∀ (u : Nat → Value) (w : World), (∀ j, depOn o j = true → Gp j w (u j)) →
    ∀ (Q : Exit → Act → World → Prop) (K : Act → World → Prop), (∀ a' w', a' = (fr u).put o.dst (slotOf o.dst a') → D w' → K a' w') → o.wp P (fr u) w K Q)
def StepsM : List Oper → Nat → Prop
  | [], _ => True
  | o :: r, i => StepM P l n N W Fs Gp D E fr R bs q0 mo i o ∧ StepsM r (i + 1)
end
section
variable {P : Program} {l : List Oper} {n N : Nat} {W : World} {Fs : List (World → Value → Prop)} {Gp : Nat → World → Value → Prop} {D : World → Prop} {E : World → Prop} {fr : (Nat → Value) → Act} {R : Nat} {bs : List Int} {q0 mo : Nat}
def CW (n N : Nat) (W : World) (D E : World → Prop) (R : Nat) (bs : List Int) (q0 mo : Nat) (L : List Bool) (w : World) : Prop := L.length = N ∧ (L[n]? = some false → Mv R W.heap.size W w ∧ (L[mo]? = some false → RdAt R bs w q0)) ∧ (L[N - 1]? = some true → D w) ∧ (L[n]? = some true → L[N - 1]? = some false → E w)
def FW (n N : Nat) (Fs : List (World → Value → Prop)) (Gp : Nat → World → Value → Prop) (L : List Bool) (i : Nat) (w : World) (v : Value) : Prop :=
  (i < n → L[n]? = some false → bof Fs i w v) ∧ (L[n]? = some true → L[N - 1]? = some false → Gp i w v)
theorem stepsM_ok (hn : n + 1 < N) (hN : l.length = N) (hla : (∀ i, i < N - 1 → reachB l N (N - 1) i = true) ∧ ∀ s, l[N - 1]? = some s → depOn s n = true) (hst : ∀ i w w' v, Below w.heap.size w w' → bof Fs i w v → bof Fs i w' v) (hsm : ∀ i w w' v, i ≠ mo → Mv R w.heap.size w w' → bof Fs i w v → bof Fs i w' v) (hmo : mo < n) (hdb : ∀ (i : Nat) o, l[i]? = some o → ∀ j, depOn o j = true → j < i) :
    ∀ (r : List Oper) (i : Nat), (∀ k, l[i + k]? = r[k]?) → StepsM P l n N W Fs Gp D E fr R bs q0 mo r i → StepsOk2 P l (CW n N W D E R bs q0 mo) (FW n N Fs Gp) fr r i
  | [], _, _, _ => trivial
  | o :: r, i, hl, h => by
    have hio : l[i]? = some o := hl 0
    have hiN : i < N := by rw [← hN]; exact (List.getElem?_eq_some_iff.1 hio).1
    refine ⟨fun L u w h1 h2 h3 h4 => ⟨fun _ Q K hK => ?_, fun hw => by simp [Region.wanted, h.1.1] at hw⟩, stepsM_ok hn hN hla hst hsm hmo hdb r (i + 1) (fun k => by have := hl (k + 1); rw [List.getElem?_cons_succ] at this; rw [← this]; congr 1; omega) h.2⟩
    have hset : ∀ k, k ≠ i → (L.set i true)[k]? = L[k]? := fun k hk => List.getElem?_set_ne (fun e => hk e.symm)
    have hTF : ∀ k, k < N → L[k]? = some true ∨ L[k]? = some false := fun k hk => by
      have hk2 : k < L.length := by rw [h2.1]; exact hk
      rw [List.getElem?_eq_getElem hk2]
      cases L[k] <;> simp
    obtain ⟨s, hs⟩ : ∃ s, l[N - 1]? = some s := ⟨_, List.getElem?_eq_getElem (by omega)⟩
    have hlast : i < N - 1 → L[N - 1]? = some false := fun hi => by
      rcases hTF (N - 1) (by omega) with ht | hf
      · have := reach_done h4 _ _ _ (hla.1 i hi) ht
        rw [h1] at this; cases this
      · exact hf
    rcases Nat.lt_trichotomy i n with hin | hin | hin
    · have hlf := hlast (by omega)
      have hlf2 : (L.set i true)[N - 1]? = some false := by rw [hset _ (by omega)]; exact hlf
      rcases hTF n (by omega) with ht | hnf
      · have hfree := (h.1.2.1 hin).2.resolve_left (fun hr => by
          have := reach_done h4 _ _ _ hr ht
          rw [h1] at this; cases this)
        have hnt : (L.set i true)[n]? = some true := by rw [hset n (by omega)]; exact ht
        refine hfree u w (fun j hj => (h3 j hj).2.2 ht hlf) (h2.2.2.2 ht hlf) Q K (fun a' ha hG => ?_)
        exact hK a' w ha ⟨by rw [List.length_set]; exact h2.1, (fun hf => by rw [hnt] at hf; cases hf), fun ht2 => (by rw [hlf2] at ht2; cases ht2), fun _ _ => h2.2.2.2 ht hlf⟩ ⟨fun _ hf => (by rw [hnt] at hf; cases hf), fun _ _ => hG⟩ (fun j hj hLj hx => ⟨fun _ hf => (by rw [hnt] at hf; cases hf), fun _ _ => hx.2 ht hlf⟩)
      · obtain ⟨hB, hrd⟩ := h2.2.1 hnf
        have hnf2 : (L.set i true)[n]? = some false := by rw [hset n (by omega)]; exact hnf
        refine (h.1.2.1 hin).1 u w hB (fun e => hrd (by rw [← e]; exact h1)) (fun j hj => (h3 j hj).2.1 (Nat.lt_trans (hdb i o hio j hj) hin) hnf) Q K (fun a' w' ha hb hbb hF => ?_)
        refine hK a' w' ha ⟨by rw [List.length_set]; exact h2.1, fun _ => ⟨hB.trans (hb.mono hB.size), fun hmf => ?_⟩, fun ht => (by rw [hlf2] at ht; cases ht), fun ht => by rw [hnf2] at ht; cases ht⟩ ⟨fun _ _ => hF, fun ht => by rw [hnf2] at ht; cases ht⟩ (fun j hj hLj hx => ⟨fun hjn _ => ?_, fun ht => by rw [hnf2] at ht; cases ht⟩)
        · by_cases e : i = mo
          · subst e
            rw [List.getElem?_set_self (List.getElem?_eq_some_iff.1 h1).1] at hmf; cases hmf
          · rw [hset mo (fun e2 => e e2.symm)] at hmf
            exact (hrd hmf).below (hbb e)
        · by_cases e : i = mo
          · exact hsm j _ _ _ (fun e2 => hj (by rw [e2, e])) hb (hx.1 hjn hnf)
          · exact hst j _ _ _ (hbb e) (hx.1 hjn hnf)
    · subst hin
      have hB := (h2.2.1 h1).1
      have hlf := hlast (by omega)
      have hlf2 : (L.set i true)[N - 1]? = some false := by rw [hset _ (by omega)]; exact hlf
      obtain ⟨hd, hstep⟩ := h.1.2.2.1 rfl
      refine hstep u w hB (fun j hj => (h3 j hj).2.1 (hd j hj) h1) Q K (fun a' w' ha hGs hG hE => ?_)
      have hnt : (L.set i true)[i]? = some true := List.getElem?_set_self (List.getElem?_eq_some_iff.1 h1).1
      refine hK a' w' ha ⟨by rw [List.length_set]; exact h2.1, (fun hf => by rw [hnt] at hf; cases hf), fun ht => (by rw [hlf2] at ht; cases ht), fun _ _ => hE⟩ ⟨fun hlt => absurd hlt (by omega), fun _ _ => hG⟩ (fun j hj hLj hx => ⟨fun _ hf => (by rw [hnt] at hf; cases hf), fun _ _ => ?_⟩)
      by_cases hji : j < i
      · exact hGs j hji (hx.1 hji h1)
      · exfalso
        have hjl : j < N := by rw [← h2.1]; exact (List.getElem?_eq_some_iff.1 hLj).1
        by_cases hjN : j = N - 1
        · rw [hjN, hlf] at hLj; cases hLj
        · obtain ⟨p, hp⟩ : ∃ p, l[j]? = some p := ⟨_, List.getElem?_eq_getElem (by omega)⟩
          have hk : r[j - (i + 1)]? = some p := by
            have := hl (j - i)
            rw [show i + (j - i) = j by omega, hp, show j - i = (j - (i + 1)) + 1 by omega, List.getElem?_cons_succ] at this
            exact this.symm
          have aux : ∀ (r : List Oper) (m k : Nat) (p : Oper), r[k]? = some p → StepsM P l i N W Fs Gp D E fr R bs q0 mo r m → StepM P l i N W Fs Gp D E fr R bs q0 mo (m + k) p := by
            intro r
            induction r with
            | nil => intro m k p h _; simp at h
            | cons q r ih =>
              intro m k p hk hs
              cases k with
              | zero => simp at hk; subst hk; exact hs.1
              | succ k =>
                have := ih (m + 1) k p (by simpa using hk) hs.2
                rwa [show m + 1 + k = m + (k + 1) by omega] at this
          have hsp := aux r (i + 1) _ p hk h.2
          rw [show i + 1 + (j - (i + 1)) = j by omega] at hsp
          have := h4 j p hp hLj i (hsp.2.2.2.1 (by omega) (by omega)).1
          rw [h1] at this; cases this
    · by_cases hiN1 : i + 1 < N
      · obtain ⟨hd, hstep⟩ := h.1.2.2.2.1 hin hiN1
        have ht := (h3 n hd).1
        have hlf := hlast (by omega)
        have hlf2 : (L.set i true)[N - 1]? = some false := by rw [hset _ (by omega)]; exact hlf
        have hnt : (L.set i true)[n]? = some true := by rw [hset n (by omega)]; exact ht
        refine hstep u w (fun j hj => (h3 j hj).2.2 ht hlf) Q K (fun a' ha hG => ?_)
        exact hK a' w ha ⟨by rw [List.length_set]; exact h2.1, (fun hf => by rw [hnt] at hf; cases hf), fun ht => (by rw [hlf2] at ht; cases ht), fun _ _ => h2.2.2.2 ht hlf⟩ ⟨fun hlt => absurd hlt (by omega), fun _ _ => hG⟩ (fun j hj hLj hx => ⟨fun _ hf => (by rw [hnt] at hf; cases hf), fun _ _ => hx.2 ht hlf⟩)
      · have hiN2 : i + 1 = N := by omega
        have hi' : i = N - 1 := by omega
        have hso : s = o := by rw [hi', hs] at hio; exact Option.some.inj hio
        subst hso
        have hlf : L[N - 1]? = some false := by rw [← hi']; exact h1
        have hdn : L[n]? = some true := (h3 n (hla.2 s hs)).1
        have hlt : (L.set i true)[N - 1]? = some true := by rw [← hi']; exact List.getElem?_set_self (List.getElem?_eq_some_iff.1 h1).1
        have hnt : (L.set i true)[n]? = some true := by rw [hset n (by omega)]; exact hdn
        refine h.1.2.2.2.2 hin hiN2 u w (fun j hj => (h3 j hj).2.2 hdn hlf) Q K (fun a' w' ha hD => ?_)
        exact hK a' w' ha ⟨by rw [List.length_set]; exact h2.1, (fun hf => by rw [hnt] at hf; cases hf), fun _ => hD, fun _ hf => by rw [hlt] at hf; cases hf⟩ ⟨fun hlt => absurd hlt (by omega), fun _ hf => by rw [hlt] at hf; cases hf⟩ (fun j hj hLj hx => ⟨fun _ hf => (by rw [hnt] at hf; cases hf), fun _ hf => by rw [hlt] at hf; cases hf⟩)
theorem wp_region_m {id : Nat} {Q : Exit → Act → World → Prop} {a0 : Act} (n N mo : Nat) (Fs : List (World → Value → Prop)) (Gp : Nat → World → Value → Prop) (D E : World → Prop)
    (hm : P.follows .mixedOrders = true) (hn : n + 1 < N) (hN : l.length = N) (hfr : ∀ u, frU u l 0 a0 = fr u) (hd : (dstsApart l && depsBefore l 0) = true) (hla : lastReach n l = true)
    (hst : BAll Fs) (hsm : ∀ i w w' v, i ≠ mo → Mv R w.heap.size w w' → bof Fs i w v → bof Fs i w' v) (hmo : mo < n) (hrd : RdAt R bs W q0) (hs : StepsM P l n N W Fs Gp D E fr R bs q0 mo l 0)
    (hend : ∀ u w', D w' → Q .normal (fr u) w') : (Code.region id l.toArray true).wp P Q a0 W := by
  have hdb := hd
  rw [Bool.and_eq_true] at hdb
  have hla' : (∀ i, i < N - 1 → reachB l N (N - 1) i = true) ∧ ∀ s, l[N - 1]? = some s → depOn s n = true := by
    unfold lastReach at hla
    rw [Bool.and_eq_true, hN] at hla
    refine ⟨fun i hi => (List.all_eq_true.1 hla.1) i (List.mem_range.2 hi), fun s hs => ?_⟩
    have h2 := hla.2
    rw [hs] at h2
    exact h2
  refine wp_region_rel2 (CW n N W D E R bs q0 mo) (FW n N Fs Gp) hm hfr hd ⟨by simp [hN], fun _ => ⟨⟨rfl, rfl, rfl, Nat.le_refl _, fun _ _ _ => rfl⟩, fun _ => ⟨hrd.lt, hrd.code, hrd.place, hrd.frz⟩⟩, fun h => ?_, fun h => ?_⟩ (stepsM_ok hn hN hla' (fun i w w' v hb h => bof_stb Fs hst i w w' v hb h) hsm hmo (fun i o hio j hj => by have := depsBefore_at l 0 hdb.2 i o hio j hj; omega) l 0 (fun k => by rw [Nat.zero_add]) hs) (fun L u w' hL hC _ => hend u w' (hC.2.2.1 (hL _ (by omega))))
  all_goals
    rw [List.getElem?_replicate] at h
    split at h <;> cases h
/-- A step before. -/
theorem stM {i : Nat} {o : Oper} (hg : o.guard = none) (hin : i < n) (_him : i ≠ mo) (hr : reachB l (n + 1) n i = true)
    (h : ∀ (u : Nat → Value) (w : World), Mv R W.heap.size W w → (∀ j, depOn o j = true → bof Fs j w (u j)) →
      ∀ (Q : Exit → Act → World → Prop) (K : Act → World → Prop), (∀ a' w', a' = (fr u).put o.dst (slotOf o.dst a') → Below w.heap.size w w' → bof Fs i w' (slotOf o.dst a') → K a' w') → o.wp P (fr u) w K Q) :
    StepM P l n N W Fs Gp D E fr R bs q0 mo i o := ⟨hg, fun _ => ⟨fun u w hB _ hd Q K hK => h u w hB hd Q K (fun a' w' ha hb hF => hK a' w' ha (Mv.of_below hb) (fun _ => hb) hF), .inl hr⟩, fun e => absurd e (by omega), fun e => absurd e (by omega), fun e => absurd e (by omega)⟩
theorem stMf {i : Nat} {o : Oper} (hg : o.guard = none) (hin : i < n) (_him : i ≠ mo)
    (h : ∀ (u : Nat → Value) (w : World), Mv R W.heap.size W w → (∀ j, depOn o j = true → bof Fs j w (u j)) →
      ∀ (Q : Exit → Act → World → Prop) (K : Act → World → Prop), (∀ a' w', a' = (fr u).put o.dst (slotOf o.dst a') → Below w.heap.size w w' → bof Fs i w' (slotOf o.dst a') → K a' w') → o.wp P (fr u) w K Q)
    (h2 : ∀ (u : Nat → Value) (w : World), (∀ j, depOn o j = true → Gp j w (u j)) → E w → ∀ (Q : Exit → Act → World → Prop) (K : Act → World → Prop), (∀ a', a' = (fr u).put o.dst (slotOf o.dst a') → Gp i w (slotOf o.dst a') → K a' w) → o.wp P (fr u) w K Q) :
    StepM P l n N W Fs Gp D E fr R bs q0 mo i o := ⟨hg, fun _ => ⟨fun u w hB _ hd Q K hK => h u w hB hd Q K (fun a' w' ha hb hF => hK a' w' ha (Mv.of_below hb) (fun _ => hb) hF), .inr h2⟩, fun e => absurd e (by omega), fun e => absurd e (by omega), fun e => absurd e (by omega)⟩
/-- The one that moves the reader. -/
theorem stMm {o : Oper} (hg : o.guard = none) (hin : mo < n) (hr : reachB l (n + 1) n mo = true)
    (h : ∀ (u : Nat → Value) (w : World), Mv R W.heap.size W w → RdAt R bs w q0 → (∀ j, depOn o j = true → bof Fs j w (u j)) →
      ∀ (Q : Exit → Act → World → Prop) (K : Act → World → Prop), (∀ a' w', a' = (fr u).put o.dst (slotOf o.dst a') → Mv R w.heap.size w w' → bof Fs mo w' (slotOf o.dst a') → K a' w') → o.wp P (fr u) w K Q) :
    StepM P l n N W Fs Gp D E fr R bs q0 mo mo o := ⟨hg, fun _ => ⟨fun u w hB hq hd Q K hK => h u w hB (hq rfl) hd Q K (fun a' w' ha hb hF => hK a' w' ha hb (fun e => absurd rfl e) hF), .inl hr⟩, fun e => absurd e (by omega), fun e => absurd e (by omega), fun e => absurd e (by omega)⟩
theorem stMt {o : Oper} (hg : o.guard = none) (hd : (o.after.toList.all fun e => decide (e.on < n)) = true)
    (h : ∀ (u : Nat → Value) (w : World), Mv R W.heap.size W w → (∀ j, depOn o j = true → bof Fs j w (u j)) →
      ∀ (Q : Exit → Act → World → Prop) (K : Act → World → Prop), (∀ a' w', a' = (fr u).put o.dst (slotOf o.dst a') → (∀ j, j < n → bof Fs j w (u j) → Gp j w' (u j)) → Gp n w' (slotOf o.dst a') → E w' → K a' w') → o.wp P (fr u) w K Q) :
    StepM P l n N W Fs Gp D E fr R bs q0 mo n o := ⟨hg, fun e => absurd e (by omega), fun _ => ⟨depsBelow hd, h⟩, fun e => absurd e (by omega), fun e => absurd e (by omega)⟩
theorem stMb {i : Nat} {o : Oper} (hg : o.guard = none) (hin : n < i) (hiN : i + 1 < N) (hd : depOn o n = true)
    (h : ∀ (u : Nat → Value) (w : World), (∀ j, depOn o j = true → Gp j w (u j)) → ∀ (Q : Exit → Act → World → Prop) (K : Act → World → Prop), (∀ a', a' = (fr u).put o.dst (slotOf o.dst a') → Gp i w (slotOf o.dst a') → K a' w) → o.wp P (fr u) w K Q) :
    StepM P l n N W Fs Gp D E fr R bs q0 mo i o := ⟨hg, fun e => absurd e (by omega), fun e => absurd e (by omega), fun _ _ => ⟨hd, h⟩, fun _ e => absurd e (by omega)⟩
theorem stMl {i : Nat} {o : Oper} (hg : o.guard = none) (hin : n < i) (hiN : i + 1 = N)
    (h : ∀ (u : Nat → Value) (w : World), (∀ j, depOn o j = true → Gp j w (u j)) → ∀ (Q : Exit → Act → World → Prop) (K : Act → World → Prop), (∀ a' w', a' = (fr u).put o.dst (slotOf o.dst a') → D w' → K a' w') → o.wp P (fr u) w K Q) :
    StepM P l n N W Fs Gp D E fr R bs q0 mo i o := ⟨hg, fun e => absurd e (by omega), fun e => absurd e (by omega), fun _ e => absurd e (by omega), fun _ _ => h⟩
end
end Go.Proofs.YtfcbbahlhjdefaaDoor
