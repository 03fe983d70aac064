/- Regions that draw their order and turn the world once: an append behind all other operations. -/
import Derived.Test.YtnnmkdaioajkkaaDoorRegB
import Derived.Test.YtnnmkdaioajkkaaDoorSlA
namespace Go.Proofs.YtnnmkdaioajkkaaDoor
open Go.RowKit
/-- Operation i comes before operation a in every order. -/
def reachB (l : List Oper) : Nat → Nat → Nat → Bool
  | 0, _, _ => false
  | f + 1, a, i => match l[a]? with
    | some o => depOn o i || (List.range a).any fun j => depOn o j && reachB l f j i
    | none => false
theorem reach_done {l : List Oper} {L : List Bool} (hcl : ∀ (j : Nat) o, l[j]? = some o → L[j]? = some true → ∀ k, depOn o k = true → L[k]? = some true) : ∀ (f a i : Nat), reachB l f a i = true → L[a]? = some true → L[i]? = some true
  | 0, _, _, h, _ => by simp [reachB] at h
  | f + 1, a, i, h, ha => by
    unfold reachB at h
    cases hx : l[a]? with
    | none => rw [hx] at h; simp at h
    | some o =>
      rw [hx] at h
      simp only [Bool.or_eq_true, List.any_eq_true, Bool.and_eq_true] at h
      rcases h with h | ⟨j, _, h1, h2⟩
      · exact hcl a o hx ha i h
      · exact reach_done hcl f j i h2 (hcl a o hx ha j h1)
section
variable (P : Program) (l : List Oper) (C : List Bool → World → Prop) (F : List Bool → Nat → World → Value → Prop) (fr : (Nat → Value) → Act) (u0 : Nat → Value)
/-- What is to be shown of operation number i, where L tells which have come up. -/
def StepOk2I (i : Nat) (o : Oper) : Prop :=
  ∀ (L : List Bool) (u : Nat → Value) (w : World), L[i]? = some false → C L w → (∀ j, depOn o j = true → L[j]? = some true ∧ F L j w (u j)) → (∀ (j : Nat) o', l[j]? = some o' → L[j]? = some true → ∀ k, depOn o' k = true → L[k]? = some true) → (∀ (j : Nat) o', l[j]? = some o' → depOn o' i = true → u j = u0 j) →
    (Region.wanted o (yielded l.toArray (fr u).tmps) = true → ∀ (Q : Exit → Act → World → Prop) (K : Act → World → Prop),
      (∀ a' w', a' = (fr u).put o.dst (slotOf o.dst a') → C (L.set i true) w' → F (L.set i true) i w' (slotOf o.dst a') → (∀ j, j ≠ i → L[j]? = some true → F L j w (u j) → F (L.set i true) j w' (u j)) → K a' w') → o.wp P (fr u) w K Q) ∧
    (Region.wanted o (yielded l.toArray (fr u).tmps) = false → C (L.set i true) w ∧ F (L.set i true) i w undef ∧ (∀ j, j ≠ i → L[j]? = some true → F L j w (u j) → F (L.set i true) j w (u j)))
def StepsOk2I : List Oper → Nat → Prop
  | [], _ => True
  | o :: r, i => StepOk2I P l C F fr u0 i o ∧ StepsOk2I r (i + 1)
end
section
variable {P : Program} {l : List Oper} {C : List Bool → World → Prop} {F : List Bool → Nat → World → Value → Prop} {fr : (Nat → Value) → Act} {u0 : Nat → Value}
theorem stepsOk2I_at : ∀ (r : List Oper) (i k : Nat) (o : Oper), r[k]? = some o → StepsOk2I P l C F fr u0 r i → StepOk2I P l C F fr u0 (i + k) o
  | [], _, _, _, h, _ => by simp at h
  | p :: r, i, 0, o, h, hs => by
    simp at h
    subst h
    exact hs.1
  | p :: r, i, k + 1, o, h, hs => by
    have := stepsOk2I_at r (i + 1) k o (by simpa using h) hs.2
    rwa [show i + 1 + k = i + (k + 1) from by omega] at this
theorem wpAny_rel2I {Q : Exit → Act → World → Prop} {a0 : Act} (hfr : ∀ u, frU u l 0 a0 = fr u) (hd : dstsApart l = true) (hb : depsBefore l 0 = true)
    (hs : StepsOk2I P l C F fr u0 l 0)
    (hend : ∀ L u w', (∀ i : Nat, i < l.length → L[i]? = some true) → C L w' → (∀ i, i < l.length → F L i w' (u i)) → Q .normal (fr u) w') :
    ∀ (fuel : Nat) (L : List Bool) (u : Nat → Value) (w : World), L.length = l.length → L.count false = fuel → C L w → (∀ i : Nat, L[i]? = some true → F L i w (u i)) → (∀ (j : Nat) o', l[j]? = some o' → L[j]? = some true → ∀ k, depOn o' k = true → L[k]? = some true) → (∀ j : Nat, L[j]? ≠ some true → u j = u0 j) →
      wpAny P .any l.toArray Q fuel L.toArray (fr u) w := by
  intro fuel
  induction fuel with
  | zero =>
    intro L u w hL hc hC hF _ _
    have hall : ∀ i : Nat, i < L.length → L[i]? = some true := by
      rcases first_false L with h | ⟨i, h1, _⟩
      · exact h
      · have := List.count_pos_iff.2 (List.mem_of_getElem? h1); omega
    refine ⟨?_, hend L u w (fun i hi => hall i (by omega)) hC (fun i hi => hF i (hall i (by omega)))⟩
    refine List.eq_nil_iff_forall_not_mem.2 (fun i hi => ?_)
    obtain ⟨h0, o, ho, _⟩ := mem_ready.1 hi
    have hlt : i < l.length := by simpa using (Array.getElem?_eq_some_iff.1 ho).1
    have := hall i (by omega)
    simp [this] at h0
  | succ fuel ih =>
    intro L u w hL hc hC hF hcl hI
    refine ⟨fun hr => ?_, fun i hi => ?_⟩
    · exfalso
      rcases first_false L with h | ⟨i, h1, h2⟩
      · have : L.count false = 0 := List.count_eq_zero.2 (fun hmem => by
          obtain ⟨i, hi, he⟩ := List.getElem_of_mem hmem
          have := h i hi
          rw [List.getElem?_eq_getElem hi, he] at this
          simp at this)
        omega
      · have hlt : i < l.length := by rw [← hL]; exact (List.getElem?_eq_some_iff.1 h1).1
        have : i ∈ Region.ready .any l.toArray L.toArray := mem_ready.2 ⟨by simp [h1], l[i], by simp, fun e he hbi => by
          have := depsBefore_spec l 0 i l[i] (List.getElem?_eq_getElem hlt) hb e he hbi
          have := h2 e.on (by omega)
          simp [this]⟩
        rw [hr] at this
        cases this
    · obtain ⟨h0, o, ho, hdep⟩ := mem_ready.1 hi
      have ho' : l[i]? = some o := by simpa using ho
      have hlt : i < l.length := (List.getElem?_eq_some_iff.1 ho').1
      have hLi : L[i]? = some false := by
        have : i < L.length := by omega
        simp [this] at h0
        rw [List.getElem?_eq_getElem this, h0]
      have hstep := stepsOk2I_at l 0 i o ho' hs
      rw [Nat.zero_add] at hstep
      obtain ⟨g1, g2⟩ := hstep L u w hLi hC (fun j hj => by
        obtain ⟨e, he, hbi, rfl⟩ := depOn_spec hj
        have := hdep e (by simpa using he) hbi
        have ht : L[e.on]? = some true := by
          cases hx : L[e.on]? with
          | none => simp [hx] at this
          | some b => simp [hx] at this; rw [this]
        exact ⟨ht, hF e.on ht⟩) hcl (fun j o' hj hji => hI j (fun ht => by
        have := hcl j o' hj ht i hji
        rw [hLi] at this; cases this))
      have next : ∀ v w', C (L.set i true) w' → F (L.set i true) i w' v → (∀ j, j ≠ i → L[j]? = some true → F L j w (u j) → F (L.set i true) j w' (u j)) → wpAny P .any l.toArray Q fuel (L.toArray.setIfInBounds i true) ((fr u).put o.dst v) w' := by
        intro v w' hC' hFi hst
        rw [← hfr u, frU_put l 0 i a0 o ho' hd, Nat.zero_add, hfr, List.setIfInBounds_toArray]
        refine ih (L.set i true) (upd u i v) w' (by simpa using hL) (by have := count_false_set hLi; omega) hC' (fun j hj => ?_) (fun j o' hj hjt k hk => ?_) (fun j hj => ?_)
        case refine_3 =>
          have hji : j ≠ i := by
            intro e; subst e
            exact hj (by rw [List.getElem?_set_self (List.getElem?_eq_some_iff.1 hLi).1])
          simp only [upd, if_neg hji]
          rw [List.getElem?_set_ne (by omega)] at hj
          exact hI j hj
        case refine_2 =>
          by_cases hji : i = j
          · subst hji
            rw [ho'] at hj
            cases hj
            obtain ⟨e, he, hbi, rfl⟩ := depOn_spec hk
            have hk2 := hdep e (by simpa using he) hbi
            have ht : L[e.on]? = some true := by
              cases hx : L[e.on]? with
              | none => simp [hx] at hk2
              | some b => simp [hx] at hk2; rw [hk2]
            by_cases hie : i = e.on
            · rw [← hie] at ht; rw [hLi] at ht; cases ht
            · rw [List.getElem?_set_ne hie]; exact ht
          · rw [List.getElem?_set_ne hji] at hjt
            have ht := hcl j o' hj hjt k hk
            by_cases hik : i = k
            · rw [← hik] at ht; rw [hLi] at ht; cases ht
            · rw [List.getElem?_set_ne hik]; exact ht
        by_cases hji : j = i
        · subst hji
          simp only [upd, if_true]
          exact hFi
        · simp only [upd, if_neg hji]
          rw [List.getElem?_set_ne (by omega)] at hj
          exact hst j hji hj (hF j hj)
      unfold wpOp
      simp only [ho]
      by_cases hw : Region.wanted o (yielded l.toArray (fr u).tmps) = true
      · simp only [hw, if_true]
        refine .inl (g1 hw Q _ (fun a' w' ha hC' hFi hst => ?_))
        rw [ha]
        exact next _ _ hC' hFi hst
      · have hw' : Region.wanted o (yielded l.toArray (fr u).tmps) = false := by simpa using hw
        obtain ⟨hC', hFi, hst⟩ := g2 hw'
        simp only [hw', Bool.false_eq_true, if_false]
        exact next _ _ hC' hFi hst
/-- A region that draws its order: C L holds of the world, F L i of what operation i has left, where L tells which have come up. -/
theorem wp_region_rel2I {id : Nat} {Q : Exit → Act → World → Prop} {a0 : Act} {w : World} (C : List Bool → World → Prop) (F : List Bool → Nat → World → Value → Prop)
    (hm : P.follows .mixedOrders = true) (hfr : ∀ u, frU u l 0 a0 = fr u) (hd : (dstsApart l && depsBefore l 0) = true)
    (h0 : C (List.replicate l.length false) { w with drawn := w.drawn + 1 }) (hs : StepsOk2I P l C F fr (fun i => slotOf ((l[i]?).bind (·.dst)) a0) l 0)
    (hend : ∀ L u w', (∀ i : Nat, i < l.length → L[i]? = some true) → C L w' → (∀ i, i < l.length → F L i w' (u i)) → Q .normal (fr u) w') : (Code.region id l.toArray true).wp P Q a0 w := by
  rw [Bool.and_eq_true] at hd
  refine wp_region_any hm ?_
  have hself : fr (fun i => slotOf ((l[i]?).bind (·.dst)) a0) = a0 := by
    rw [← hfr]
    refine frU_self l 0 a0 (fun k o hk => ?_)
    simp [hk]
  have := wpAny_rel2I (Q := Q) (P := P) hfr hd.1 hd.2 hs hend l.length (List.replicate l.length false) (fun i => slotOf ((l[i]?).bind (·.dst)) a0) _ (by simp) (by simp) h0 (fun i hi => by simp [List.getElem?_replicate] at hi) (fun j o' _ hj => by simp [List.getElem?_replicate] at hj) (fun _ _ => rfl)
  rw [hself] at this
  simpa using this
end
section
variable (P : Program) (l : List Oper) (n : Nat) (W : World) (Fs : List (World → Value → Prop)) (Gp : Nat → World → Value → Prop) (fr : (Nat → Value) → Act) (u0 : Nat → Value)
/-- What is to be shown of operation i: before the one that turns the world (n), of it, behind it. -/
def StepT (i : Nat) (o : Oper) : Prop := o.guard = none ∧
  (i < n → (∀ (u : Nat → Value) (w : World), Below W.heap.size W w → (∀ j, depOn o j = true → bof Fs j w (u j)) → (∀ (j : Nat) o', l[j]? = some o' → depOn o' i = true → u j = u0 j) →
    ∀ (Q : Exit → Act → World → Prop) (K : Act → World → Prop), (∀ a' w', a' = (fr u).put o.dst (slotOf o.dst a') → Below w.heap.size w w' → bof Fs i w' (slotOf o.dst a') → K a' w') → o.wp P (fr u) w K Q) ∧
    (reachB l (n + 1) n i = true ∨ ∀ (u : Nat → Value) (w : World), (∀ j, depOn o j = true → Gp j w (u j)) → ∀ (Q : Exit → Act → World → Prop) (K : Act → World → Prop), (∀ a', a' = (fr u).put o.dst (slotOf o.dst a') → Gp i w (slotOf o.dst a') → K a' w) → o.wp P (fr u) w K Q)) ∧
  (i = n → (∀ j, depOn o j = true → j < n) ∧ ∀ (u : Nat → Value) (w : World), Below W.heap.size W w → (∀ j, depOn o j = true → bof Fs j w (u j)) →
    ∀ (Q : Exit → Act → World → Prop) (K : Act → World → Prop), (∀ a' w', a' = (fr u).put o.dst (slotOf o.dst a') → (∀ j, j < n → bof Fs j w (u j) → Gp j w' (u j)) → Gp n w' (slotOf o.dst a') → K a' w') → o.wp P (fr u) w K Q) ∧
  (n < i → depOn o n = true ∧ ∀ (u : Nat → Value) (w : World), (∀ j, depOn o j = true → Gp j w (u j)) →
    ∀ (Q : Exit → Act → World → Prop) (K : Act → World → Prop), (∀ a', a' = (fr u).put o.dst (slotOf o.dst a') → Gp i w (slotOf o.dst a') → K a' w) → o.wp P (fr u) w K Q)
def StepsT : List Oper → Nat → Prop
  | [], _ => True
  | o :: r, i => StepT P l n W Fs Gp fr u0 i o ∧ StepsT r (i + 1)
end
section
variable {P : Program} {l : List Oper} {n : Nat} {W : World} {Fs : List (World → Value → Prop)} {Gp : Nat → World → Value → Prop} {fr : (Nat → Value) → Act} {u0 : Nat → Value}
def CT (n N : Nat) (W : World) (L : List Bool) (w : World) : Prop := L.length = N ∧ (L[n]? = some false → Below W.heap.size W w)
def FT (n : Nat) (Fs : List (World → Value → Prop)) (Gp : Nat → World → Value → Prop) (L : List Bool) (i : Nat) (w : World) (v : Value) : Prop :=
  (i < n → L[n]? = some false → bof Fs i w v) ∧ (L[n]? = some true → Gp i w v)
theorem stepsT_at : ∀ (r : List Oper) (m k : Nat) (p : Oper), r[k]? = some p → StepsT P l n W Fs Gp fr u0 r m → StepT P l n W Fs Gp fr u0 (m + k) p
  | [], _, _, _, h, _ => by simp at h
  | q :: r, m, 0, p, h, hs => by
    simp at h
    subst h
    exact hs.1
  | q :: r, m, k + 1, p, h, hs => by
    have := stepsT_at r (m + 1) k p (by simpa using h) hs.2
    rwa [show m + 1 + k = m + (k + 1) by omega] at this
theorem stepsT_ok (hn : n < l.length) (hst : ∀ i w w' v, Below w.heap.size w w' → bof Fs i w v → bof Fs i w' v) (hdb : ∀ (i : Nat) o, l[i]? = some o → ∀ j, depOn o j = true → j < i) (hsA : StepsT P l n W Fs Gp fr u0 l 0) :
    ∀ (r : List Oper) (i : Nat), (∀ k, l[i + k]? = r[k]?) → StepsT P l n W Fs Gp fr u0 r i → StepsOk2I P l (CT n l.length W) (FT n Fs Gp) fr u0 r i
  | [], _, _, _ => trivial
  | o :: r, i, hl, h => by
    have hio : l[i]? = some o := hl 0
    refine ⟨fun L u w h1 h2 h3 h4 h5 => ⟨fun _ Q K hK => ?_, fun hw => by simp [Region.wanted, h.1.1] at hw⟩, stepsT_ok hn hst hdb hsA r (i + 1) (fun k => by have := hl (k + 1); rw [List.getElem?_cons_succ] at this; rw [← this]; congr 1; omega) h.2⟩
    have hset : ∀ k, k ≠ i → (L.set i true)[k]? = L[k]? := fun k hk => List.getElem?_set_ne (fun e => hk e.symm)
    have hLn : L[n]? = some true ∨ L[n]? = some false := by
      have : n < L.length := by rw [h2.1]; exact hn
      rw [List.getElem?_eq_getElem this]
      cases L[n] <;> simp
    have hno : L[n]? = some false → ∀ j, n ≤ j → L[j]? = some true → False := fun hf j hle hLj => by
      rcases Nat.lt_or_eq_of_le hle with hlt | he
      · have hj2 : j < l.length := by
          have := (List.getElem?_eq_some_iff.1 hLj).1
          rw [h2.1] at this; exact this
        obtain ⟨p, hp⟩ : ∃ p, l[j]? = some p := ⟨_, List.getElem?_eq_getElem hj2⟩
        have hsp := stepsT_at l 0 j p hp hsA
        rw [Nat.zero_add] at hsp
        have := h4 j p hp hLj n (hsp.2.2.2 hlt).1
        rw [hf] at this; cases this
      · subst he
        rw [hf] at hLj; cases hLj
    rcases Nat.lt_trichotomy i n with hin | hin | hin
    · rcases hLn with ht | hf
      · rcases (h.1.2.1 hin).2 with hr | hstep
        · have := reach_done h4 _ _ _ hr ht
          rw [h1] at this; cases this
        · have hnt : (L.set i true)[n]? = some true := by rw [hset n (by omega)]; exact ht
          refine hstep u w (fun j hj => (h3 j hj).2.2 ht) Q K (fun a' ha hG => ?_)
          exact hK a' w ha ⟨by rw [List.length_set]; exact h2.1, (fun hf => by rw [hnt] at hf; cases hf)⟩ ⟨fun _ hf => (by rw [hnt] at hf; cases hf), fun _ => hG⟩ (fun j hj hLj hx => ⟨fun _ hf => (by rw [hnt] at hf; cases hf), fun _ => hx.2 ht⟩)
      have hB := h2.2 hf
      have hnf : (L.set i true)[n]? = some false := by rw [hset n (by omega)]; exact hf
      refine (h.1.2.1 hin).1 u w hB (fun j hj => (h3 j hj).2.1 (Nat.lt_trans (hdb i o hio j hj) hin) hf) h5 Q K (fun a' w' ha hb hF => ?_)
      exact hK a' w' ha ⟨by rw [List.length_set]; exact h2.1, fun _ => hB.trans (hb.mono hB.size)⟩ ⟨fun _ _ => hF, fun ht => by rw [hnf] at ht; cases ht⟩ (fun j hj hLj hx => ⟨fun hjn _ => hst j _ _ _ hb (hx.1 hjn hf), fun ht => by rw [hnf] at ht; cases ht⟩)
    · subst hin
      have hB := h2.2 h1
      obtain ⟨hd, hstep⟩ := h.1.2.2.1 rfl
      refine hstep u w hB (fun j hj => (h3 j hj).2.1 (hd j hj) h1) Q K (fun a' w' ha hGs hG => ?_)
      have hnt : (L.set i true)[i]? = some true := List.getElem?_set_self (List.getElem?_eq_some_iff.1 h1).1
      refine hK a' w' ha ⟨by rw [List.length_set]; exact h2.1, (fun hf => by rw [hnt] at hf; cases hf)⟩ ⟨fun hlt => absurd hlt (by omega), fun _ => hG⟩ (fun j hj hLj hx => ⟨fun _ hf => (by rw [hnt] at hf; cases hf), fun _ => ?_⟩)
      by_cases hji : j < i
      · exact hGs j hji (hx.1 hji h1)
      · exact (hno h1 j (by omega) hLj).elim
    · obtain ⟨hd, hstep⟩ := h.1.2.2.2 hin
      have ht := (h3 n hd).1
      refine hstep u w (fun j hj => (h3 j hj).2.2 ht) Q K (fun a' ha hG => ?_)
      have hnt : (L.set i true)[n]? = some true := by rw [hset n (by omega)]; exact ht
      exact hK a' w ha ⟨by rw [List.length_set]; exact h2.1, (fun hf => by rw [hnt] at hf; cases hf)⟩ ⟨fun hlt => absurd hlt (by omega), fun _ => hG⟩ (fun j hj hLj hx => ⟨fun _ hf => (by rw [hnt] at hf; cases hf), fun _ => hx.2 ht⟩)
theorem depsBefore_at : ∀ (l : List Oper) (k : Nat), depsBefore l k = true → ∀ (i : Nat) o, l[i]? = some o → ∀ j, depOn o j = true → j < k + i
  | [], _, _, _, _, h, _, _ => by simp at h
  | o :: l, k, h, 0, p, hp, j, hj => by
    simp only [depsBefore, Bool.and_eq_true, List.all_eq_true] at h
    simp at hp
    subst hp
    obtain ⟨e, he, h1, h2⟩ := depOn_spec hj
    have := h.1 e (by simpa using he)
    rw [h1] at this
    simp at this
    omega
  | o :: l, k, h, i + 1, p, hp, j, hj => by
    simp only [depsBefore, Bool.and_eq_true] at h
    have := depsBefore_at l (k + 1) h.2 i p (by simpa using hp) j hj
    omega
/-- A region that draws its order and turns the world by its operation n alone, which waits for all before it. -/
theorem wp_region_turn2 {id : Nat} {Q : Exit → Act → World → Prop} {a0 : Act} (n : Nat) (Fs : List (World → Value → Prop)) (Gp : Nat → World → Value → Prop)
    (hm : P.follows .mixedOrders = true) (hn : n < l.length) (hfr : ∀ u, frU u l 0 a0 = fr u) (hd : (dstsApart l && depsBefore l 0) = true)
    (hst : BAll Fs) (hs : StepsT P l n W Fs Gp fr (fun i => slotOf ((l[i]?).bind (·.dst)) a0) l 0)
    (hend : ∀ u w', (∀ i, i < l.length → Gp i w' (u i)) → Q .normal (fr u) w') : (Code.region id l.toArray true).wp P Q a0 W := by
  have hdb := hd
  rw [Bool.and_eq_true] at hdb
  refine wp_region_rel2I (CT n l.length W) (FT n Fs Gp) hm hfr hd ⟨by simp, fun _ => ⟨rfl, rfl, rfl, Nat.le_refl _, fun _ _ => rfl⟩⟩ (stepsT_ok hn (fun i w w' v hb h => bof_stb Fs hst i w w' v hb h) (fun i o hio j hj => by have := depsBefore_at l 0 hdb.2 i o hio j hj; omega) hs l 0 (fun k => by rw [Nat.zero_add]) hs) (fun L u w' hL _ hF => hend u w' (fun i h2 => (hF i h2).2 (hL n hn)))
/-- The same, where what is behind tells nothing of the values before. -/
theorem wp_region_turn {id : Nat} {Q : Exit → Act → World → Prop} {a0 : Act} (n : Nat) (Fs : List (World → Value → Prop)) (G : World → Value → Prop)
    (hm : P.follows .mixedOrders = true) (hn : n < l.length) (hfr : ∀ u, frU u l 0 a0 = fr u) (hd : (dstsApart l && depsBefore l 0) = true)
    (hst : BAll Fs) (hs : StepsT P l n W Fs (fun j w v => n ≤ j → G w v) fr (fun i => slotOf ((l[i]?).bind (·.dst)) a0) l 0)
    (hend : ∀ u w', (∀ i, n ≤ i → i < l.length → G w' (u i)) → Q .normal (fr u) w') : (Code.region id l.toArray true).wp P Q a0 W :=
  wp_region_turn2 n Fs (fun j w v => n ≤ j → G w v) hm hn hfr hd hst hs (fun u w' h => hend u w' (fun i h1 h2 => h i h2 h1))
end
section
variable {P : Program} {l : List Oper} {n : Nat} {W : World} {Fs : List (World → Value → Prop)} {G : World → Value → Prop} {Gp : Nat → World → Value → Prop} {fr : (Nat → Value) → Act} {u0 : Nat → Value} {i : Nat} {o : Oper}
/-- A step before. -/
theorem stT (hg : o.guard = none) (hin : i < n) (hr : reachB l (n + 1) n i = true)
    (h : ∀ (u : Nat → Value) (w : World), Below W.heap.size W w → (∀ j, depOn o j = true → bof Fs j w (u j)) → (∀ (j : Nat) o', l[j]? = some o' → depOn o' i = true → u j = u0 j) →
      ∀ (Q : Exit → Act → World → Prop) (K : Act → World → Prop), (∀ a' w', a' = (fr u).put o.dst (slotOf o.dst a') → Below w.heap.size w w' → bof Fs i w' (slotOf o.dst a') → K a' w') → o.wp P (fr u) w K Q) :
    StepT P l n W Fs Gp fr u0 i o := ⟨hg, fun _ => ⟨h, .inl hr⟩, fun e => absurd e (by omega), fun e => absurd e (by omega)⟩
/-- A step that may come up before or behind. -/
theorem stTf (hg : o.guard = none) (hin : i < n)
    (h : ∀ (u : Nat → Value) (w : World), Below W.heap.size W w → (∀ j, depOn o j = true → bof Fs j w (u j)) →
      ∀ (Q : Exit → Act → World → Prop) (K : Act → World → Prop), (∀ a' w', a' = (fr u).put o.dst (slotOf o.dst a') → Below w.heap.size w w' → bof Fs i w' (slotOf o.dst a') → K a' w') → o.wp P (fr u) w K Q)
    (h2 : ∀ (u : Nat → Value) (w : World), (∀ j, depOn o j = true → Gp j w (u j)) → ∀ (Q : Exit → Act → World → Prop) (K : Act → World → Prop), (∀ a', a' = (fr u).put o.dst (slotOf o.dst a') → Gp i w (slotOf o.dst a') → K a' w) → o.wp P (fr u) w K Q) :
    StepT P l n W Fs Gp fr u0 i o := ⟨hg, fun _ => ⟨fun u w hB hF _ => h u w hB hF, .inr h2⟩, fun e => absurd e (by omega), fun e => absurd e (by omega)⟩
theorem depsBelow (hd : (o.after.toList.all fun e => decide (e.on < n)) = true) : ∀ j, depOn o j = true → j < n := fun j hj => by
  obtain ⟨e, he, h1, h2⟩ := depOn_spec hj
  have := (List.all_eq_true.1 hd) e (by simpa using he)
  rw [h2] at this
  exact of_decide_eq_true this
/-- The one that turns the world. -/
theorem stTt (hg : o.guard = none) (hd : (o.after.toList.all fun e => decide (e.on < n)) = true)
    (h : ∀ (u : Nat → Value) (w : World), Below W.heap.size W w → (∀ j, depOn o j = true → bof Fs j w (u j)) →
      ∀ (Q : Exit → Act → World → Prop) (K : Act → World → Prop), (∀ a' w', a' = (fr u).put o.dst (slotOf o.dst a') → (∀ j, j < n → bof Fs j w (u j) → Gp j w' (u j)) → Gp n w' (slotOf o.dst a') → K a' w') → o.wp P (fr u) w K Q) :
    StepT P l n W Fs Gp fr u0 n o := ⟨hg, fun e => absurd e (by omega), fun _ => ⟨depsBelow hd, h⟩, fun e => absurd e (by omega)⟩
/-- A step behind. -/
theorem stTb (hg : o.guard = none) (hin : n < i) (hd : depOn o n = true)
    (h : ∀ (u : Nat → Value) (w : World), (∀ j, depOn o j = true → Gp j w (u j)) → ∀ (Q : Exit → Act → World → Prop) (K : Act → World → Prop), (∀ a', a' = (fr u).put o.dst (slotOf o.dst a') → Gp i w (slotOf o.dst a') → K a' w) → o.wp P (fr u) w K Q) :
    StepT P l n W Fs Gp fr u0 i o := ⟨hg, fun e => absurd e (by omega), fun e => absurd e (by omega), fun _ => ⟨hd, h⟩⟩
/-- The append. -/
theorem stTa (hg : o.guard = none) (hd : (o.after.toList.all fun e => decide (e.on < n)) = true)
    (h : ∀ (u : Nat → Value) (w : World), Below W.heap.size W w → (∀ j, depOn o j = true → bof Fs j w (u j)) →
      ∀ (Q : Exit → Act → World → Prop) (K : Act → World → Prop), (∀ a' w', a' = (fr u).put o.dst (slotOf o.dst a') → G w' (slotOf o.dst a') → K a' w') → o.wp P (fr u) w K Q) :
    StepT P l n W Fs (fun j w v => n ≤ j → G w v) fr u0 n o := stTt hg hd (fun u w hB hF Q K hK => h u w hB hF Q K (fun a' w' ha hG => hK a' w' ha (fun j hj _ hn => absurd hn (by omega)) (fun _ => hG)))
/-- The assignment behind it. -/
theorem stTe (hg : o.guard = none) (hin : n < i) (hd : depOn o n = true)
    (h : ∀ (u : Nat → Value) (w : World), G w (u n) → ∀ (Q : Exit → Act → World → Prop) (K : Act → World → Prop), (∀ a', a' = (fr u).put o.dst (slotOf o.dst a') → G w (slotOf o.dst a') → K a' w) → o.wp P (fr u) w K Q) :
    StepT P l n W Fs (fun j w v => n ≤ j → G w v) fr u0 i o := stTb hg hin hd (fun u w hF Q K hK => h u w (hF n hd (Nat.le_refl _)) Q K (fun a' ha hG => hK a' ha (fun _ => hG)))
end
end Go.Proofs.YtnnmkdaioajkkaaDoor
