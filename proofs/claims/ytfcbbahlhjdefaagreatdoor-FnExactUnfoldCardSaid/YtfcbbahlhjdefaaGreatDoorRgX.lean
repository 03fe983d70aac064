/- Regions that draw their order; the reader of drawn values. -/
import Derived.Test.YtfcbbahlhjdefaaGreatDoorBsA
import Derived.Test.YtfcbbahlhjdefaaGreatDoorProg
namespace Go.Proofs.YtfcbbahlhjdefaaGreatDoor
open Go.RowKit
/-- What stands in the place that an operation writes. -/
def slotOf (d : Option Tmp) (a : Act) : Value := match d with
  | some d => a.tmps.getD d undef
  | none => undef
/-- The frame a, with u's values in the places that the operations write. -/
def frU (u : Nat → Value) : List Oper → Nat → Act → Act
  | [], _, a => a
  | o :: l, i, a => frU u l (i + 1) (a.put o.dst (u i))
def dstsApart : List Oper → Bool
  | [] => true
  | o :: l => (match o.dst with
    | some d => l.all fun p => p.dst != some d
    | none => true) && dstsApart l
def depsBefore : List Oper → Nat → Bool
  | [], _ => true
  | o :: l, i => (o.after.toList.all fun e => !Region.binds .any e || decide (e.on < i)) && depsBefore l (i + 1)
def upd (u : Nat → Value) (n : Nat) (v : Value) : Nat → Value := fun j => if j = n then v else u j
theorem put_again (a : Act) (d : Option Tmp) (v u : Value) : (a.put d v).put d u = a.put d u := by
  cases d with
  | none => rfl
  | some d => simp [Act.put]
theorem put_self (a : Act) (d : Option Tmp) : a.put d (slotOf d a) = a := by
  cases d with
  | none => rfl
  | some d =>
    obtain ⟨t, df⟩ := a
    simp only [Act.put, slotOf, Act.mk.injEq, and_true]
    by_cases h : d < t.size
    · simp [Array.setIfInBounds, h]
    · simp [Array.setIfInBounds, h]
theorem frU_out {u : Nat → Value} {d : Option Tmp} {v : Value} : ∀ (l : List Oper) (i : Nat) (a : Act), (∀ x, d = some x → (l.all fun p => p.dst != some x) = true) → (frU u l i a).put d v = frU u l i (a.put d v)
  | [], _, _, _ => rfl
  | o :: l, i, a, h => by
    simp only [frU]
    rw [frU_out l (i + 1) _ (fun x hx => by have := h x hx; simp only [List.all_cons, Bool.and_eq_true] at this; exact this.2)]
    rw [Act.put_comm a (u i) v (fun x hx hd => by have := h x hd; simp [hx] at this)]
theorem frU_congr {u u' : Nat → Value} : ∀ (l : List Oper) (i : Nat) (a : Act), (∀ j, i ≤ j → u j = u' j) → frU u l i a = frU u' l i a
  | [], _, _, _ => rfl
  | o :: l, i, a, h => by
    simp only [frU]
    rw [h i (Nat.le_refl _)]
    exact frU_congr l (i + 1) _ (fun j hj => h j (by omega))
theorem frU_put {u : Nat → Value} {v : Value} : ∀ (l : List Oper) (i k : Nat) (a : Act) (o : Oper), l[k]? = some o → dstsApart l = true → (frU u l i a).put o.dst v = frU (upd u (i + k) v) l i a
  | [], _, _, _, _, h, _ => by simp at h
  | p :: l, i, 0, a, o, h, hd => by
    simp at h
    subst h
    simp only [dstsApart, Bool.and_eq_true] at hd
    simp only [frU, Nat.add_zero]
    rw [frU_out l (i + 1) _ (fun x hx => by have := hd.1; rw [hx] at this; exact this), put_again]
    rw [show upd u i v i = v from by simp [upd]]
    exact frU_congr l (i + 1) _ (fun j hj => by simp only [upd]; rw [if_neg (by omega)])
  | p :: l, i, k + 1, a, o, h, hd => by
    simp only [dstsApart, Bool.and_eq_true] at hd
    simp only [frU]
    rw [frU_put l (i + 1) k _ o (by simpa using h) hd.2, show i + 1 + k = i + (k + 1) from by omega]
    rw [show upd u (i + (k + 1)) v i = u i from by simp only [upd]; rw [if_neg (by omega)]]
theorem frU_self {u : Nat → Value} : ∀ (l : List Oper) (i : Nat) (a : Act), (∀ k o, l[k]? = some o → u (i + k) = slotOf o.dst a) → frU u l i a = a
  | [], _, _, _ => rfl
  | o :: l, i, a, h => by
    simp only [frU]
    rw [show u i = slotOf o.dst a from h 0 o rfl, put_self]
    exact frU_self l (i + 1) a (fun k p hk => by have := h (k + 1) p (by simpa using hk); rwa [show i + (k + 1) = i + 1 + k from by omega] at this)
theorem depsBefore_spec : ∀ (l : List Oper) (i k : Nat) (o : Oper), l[k]? = some o → depsBefore l i = true → ∀ e ∈ o.after, Region.binds .any e = true → e.on < i + k
  | [], _, _, _, h, _ => by simp at h
  | p :: l, i, 0, o, h, hd => by
    simp at h
    subst h
    simp only [depsBefore, Bool.and_eq_true, List.all_eq_true] at hd
    intro e he hb
    have := hd.1 e (by simpa using he)
    simpa [hb] using this
  | p :: l, i, k + 1, o, h, hd => by
    simp only [depsBefore, Bool.and_eq_true] at hd
    intro e he hb
    have := depsBefore_spec l (i + 1) k o (by simpa using h) hd.2 e he hb
    omega

/-- Operation o waits for operation j. -/
def depOn (o : Oper) (j : Nat) : Bool := o.after.toList.any fun e => e.on == j && Region.binds .any e
theorem depOn_spec {o : Oper} {j : Nat} (h : depOn o j = true) : ∃ e ∈ o.after, Region.binds .any e = true ∧ e.on = j := by
  simp only [depOn, List.any_eq_true, Bool.and_eq_true, beq_iff_eq] at h
  obtain ⟨e, he, h1, h2⟩ := h
  exact ⟨e, by simpa using he, h2, h1⟩
section
variable (P : Program) (l : List Oper) (N : Nat) (C : Nat → World → Prop) (Ev : World → World → Prop) (F : Nat → World → Value → Prop) (fr : (Nat → Value) → Act)
/-- What is to be shown of operation number i: in whatever world it comes up, behind those for which it waits. -/
def StepOk (i : Nat) (o : Oper) : Prop :=
  ∀ (m : Nat) (u : Nat → Value) (w : World), m < N → C m w → (∀ j, depOn o j = true → F j w (u j)) →
    (Region.wanted o (yielded l.toArray (fr u).tmps) = true → ∀ (Q : Exit → Act → World → Prop) (K : Act → World → Prop),
      (∀ a' w', a' = (fr u).put o.dst (slotOf o.dst a') → C (m + 1) w' → Ev w w' → F i w' (slotOf o.dst a') → K a' w') → o.wp P (fr u) w K Q) ∧
    (Region.wanted o (yielded l.toArray (fr u).tmps) = false → C (m + 1) w ∧ Ev w w ∧ F i w undef)
def StepsOk : List Oper → Nat → Prop
  | [], _ => True
  | o :: r, i => StepOk P l N C Ev F fr i o ∧ StepsOk r (i + 1)
end
section
variable {P : Program} {l : List Oper} {N : Nat} {C : Nat → World → Prop} {Ev : World → World → Prop} {F : Nat → World → Value → Prop} {fr : (Nat → Value) → Act}
theorem stepsOk_at : ∀ (r : List Oper) (i k : Nat) (o : Oper), r[k]? = some o → StepsOk P l N C Ev F fr r i → StepOk P l N C Ev F fr (i + k) o
  | [], _, _, _, h, _ => by simp at h
  | p :: r, i, 0, o, h, hs => by
    simp at h
    subst h
    exact hs.1
  | p :: r, i, k + 1, o, h, hs => by
    have := stepsOk_at r (i + 1) k o (by simpa using h) hs.2
    rwa [show i + 1 + k = i + (k + 1) from by omega] at this
theorem step_plain {i : Nat} {o : Oper} (hg : o.guard = none)
    (h : ∀ (m : Nat) (u : Nat → Value) (w : World), m < N → C m w → (∀ j, depOn o j = true → F j w (u j)) →
      ∀ (Q : Exit → Act → World → Prop) (K : Act → World → Prop), (∀ a' w', a' = (fr u).put o.dst (slotOf o.dst a') → C (m + 1) w' → Ev w w' → F i w' (slotOf o.dst a') → K a' w') → o.wp P (fr u) w K Q) :
    StepOk P l N C Ev F fr i o := fun m u w hm hC hd => ⟨fun _ => h m u w hm hC hd, fun hw => by simp [Region.wanted, hg] at hw⟩
theorem count_false_set {L : List Bool} {i : Nat} (h : L[i]? = some false) : (L.set i true).count false + 1 = L.count false := by
  induction L generalizing i with
  | nil => simp at h
  | cons b L ih =>
    cases i with
    | zero => simp at h; subst h; simp
    | succ i =>
      have := ih (i := i) (by simpa using h)
      simp only [List.set_cons_succ, List.count_cons]
      omega
theorem first_false (L : List Bool) : (∀ i : Nat, i < L.length → L[i]? = some true) ∨ ∃ i : Nat, L[i]? = some false ∧ ∀ j, j < i → L[j]? = some true := by
  induction L with
  | nil => exact .inl (fun i h => by simp at h)
  | cons b L ih =>
    cases b with
    | false => exact .inr ⟨0, rfl, fun j h => by omega⟩
    | true =>
      rcases ih with ih | ⟨i, h1, h2⟩
      · refine .inl (fun i h => ?_)
        cases i with
        | zero => rfl
        | succ i => simpa using ih i (by simpa using h)
      · refine .inr ⟨i + 1, by simpa using h1, fun j hj => ?_⟩
        cases j with
        | zero => rfl
        | succ j => simpa using h2 j (by omega)
theorem wpAny_rel {Q : Exit → Act → World → Prop} {a0 : Act} (hN : l.length = N) (hfr : ∀ u, frU u l 0 a0 = fr u) (hd : dstsApart l = true) (hb : depsBefore l 0 = true)
    (hst : ∀ i w w' v, Ev w w' → F i w v → F i w' v) (hs : StepsOk P l N C Ev F fr l 0)
    (hend : ∀ u w', C l.length w' → (∀ i, i < l.length → F i w' (u i)) → Q .normal (fr u) w') :
    ∀ (fuel : Nat) (L : List Bool) (u : Nat → Value) (m : Nat) (w : World), L.length = l.length → L.count false = fuel → m + fuel = l.length → C m w → (∀ i : Nat, L[i]? = some true → F i w (u i)) →
      wpAny P .any l.toArray Q fuel L.toArray (fr u) w := by
  intro fuel
  induction fuel with
  | zero =>
    intro L u m w hL hc hm hC hF
    have hall : ∀ i : Nat, i < L.length → L[i]? = some true := by
      rcases first_false L with h | ⟨i, h1, _⟩
      · exact h
      · have := List.count_pos_iff.2 (List.mem_of_getElem? h1); omega
    refine ⟨?_, hend u w (by rw [← hm]; exact hC) (fun i hi => hF i (hall i (by omega)))⟩
    refine List.eq_nil_iff_forall_not_mem.2 (fun i hi => ?_)
    obtain ⟨h0, o, ho, _⟩ := mem_ready.1 hi
    have hlt : i < l.length := by simpa using (Array.getElem?_eq_some_iff.1 ho).1
    have := hall i (by omega)
    simp [this] at h0
  | succ fuel ih =>
    intro L u m w hL hc hm hC hF
    refine ⟨fun hr => ?_, fun i hi => ?_⟩
    · exfalso
      rcases first_false L with h | ⟨i, h1, h2⟩
      · have : L.count false = 0 := List.count_eq_zero.2 (fun hmem => by
          obtain ⟨i, hi, he⟩ := List.getElem_of_mem hmem
          have := h i hi
          rw [List.getElem?_eq_getElem hi, he] at this
          simp at this)
        omega
      · have hlt : i < l.length := by rw [← hL]; exact (List.getElem?_eq_some_iff.1 h1).1
        have : i ∈ Region.ready .any l.toArray L.toArray := mem_ready.2 ⟨by simp [h1], l[i], by simp, fun e he hbi => by
          have := depsBefore_spec l 0 i l[i] (List.getElem?_eq_getElem hlt) hb e he hbi
          have := h2 e.on (by omega)
          simp [this]⟩
        rw [hr] at this
        cases this
    · obtain ⟨h0, o, ho, hdep⟩ := mem_ready.1 hi
      have ho' : l[i]? = some o := by simpa using ho
      have hlt : i < l.length := (List.getElem?_eq_some_iff.1 ho').1
      have hLi : L[i]? = some false := by
        have : i < L.length := by omega
        simp [this] at h0
        rw [List.getElem?_eq_getElem this, h0]
      have hstep := stepsOk_at l 0 i o ho' hs
      rw [Nat.zero_add] at hstep
      obtain ⟨g1, g2⟩ := hstep m u w (by omega) hC (fun j hj => hF j (by
        obtain ⟨e, he, hbi, rfl⟩ := depOn_spec hj
        have := hdep e (by simpa using he) hbi
        cases hx : L[e.on]? with
        | none => simp [hx] at this
        | some b => simp [hx] at this; rw [this]))
      have next : ∀ v w', C (m + 1) w' → Ev w w' → F i w' v → wpAny P .any l.toArray Q fuel (L.toArray.setIfInBounds i true) ((fr u).put o.dst v) w' := by
        intro v w' hC' hE hFi
        rw [← hfr u, frU_put l 0 i a0 o ho' hd, Nat.zero_add, hfr, List.setIfInBounds_toArray]
        refine ih (L.set i true) (upd u i v) (m + 1) w' (by simpa using hL) (by have := count_false_set hLi; omega) (by omega) hC' (fun j hj => ?_)
        by_cases hji : j = i
        · subst hji
          simp only [upd, if_true]
          exact hFi
        · simp only [upd, if_neg hji]
          rw [List.getElem?_set_ne (by omega)] at hj
          exact hst j w w' _ hE (hF j hj)
      unfold wpOp
      simp only [ho]
      by_cases hw : Region.wanted o (yielded l.toArray (fr u).tmps) = true
      · simp only [hw, if_true]
        refine .inl (g1 hw Q _ (fun a' w' ha hC' hE hFi => ?_))
        rw [ha]
        exact next _ _ hC' hE hFi
      · have hw' : Region.wanted o (yielded l.toArray (fr u).tmps) = false := by simpa using hw
        obtain ⟨hC', hE, hFi⟩ := g2 hw'
        simp only [hw', Bool.false_eq_true, if_false]
        exact next _ _ hC' hE hFi
/-- A region that draws its order: C m holds of the world behind m operations, F i of what operation i has left, and stands whatever comes up behind it (Ev). -/
theorem wp_region_rel {id : Nat} {Q : Exit → Act → World → Prop} {a0 : Act} {w : World} (C : Nat → World → Prop) (Ev : World → World → Prop) (F : Nat → World → Value → Prop)
    (hm : P.follows .mixedOrders = true) (hN : l.length = N) (hfr : ∀ u, frU u l 0 a0 = fr u) (hd : (dstsApart l && depsBefore l 0) = true)
    (hst : ∀ i w w' v, Ev w w' → F i w v → F i w' v) (h0 : C 0 { w with drawn := w.drawn + 1 }) (hs : StepsOk P l N C Ev F fr l 0)
    (hend : ∀ u w', C N w' → (∀ i, i < N → F i w' (u i)) → Q .normal (fr u) w') : (Code.region id l.toArray true).wp P Q a0 w := by
  rw [Bool.and_eq_true] at hd
  refine wp_region_any hm ?_
  have hself : fr (fun i => slotOf ((l[i]?).bind (·.dst)) a0) = a0 := by
    rw [← hfr]
    refine frU_self l 0 a0 (fun k o hk => ?_)
    simp [hk]
  have := wpAny_rel (Q := Q) (P := P) hN hfr hd.1 hd.2 hst hs (hN ▸ hend) l.length (List.replicate l.length false) (fun i => slotOf ((l[i]?).bind (·.dst)) a0) 0 _ (by simp) (by simp) (by omega) h0 (fun i hi => by simp [List.getElem?_replicate] at hi)
  rw [hself] at this
  simpa using this
end
section
variable (P : Program) (l : List Oper) (C : List Bool → World → Prop) (F : List Bool → Nat → World → Value → Prop) (fr : (Nat → Value) → Act)
/-- What is to be shown of operation number i, where L tells which have come up. -/
def StepOk2 (i : Nat) (o : Oper) : Prop :=
  ∀ (L : List Bool) (u : Nat → Value) (w : World), L[i]? = some false → C L w → (∀ j, depOn o j = true → L[j]? = some true ∧ F L j w (u j)) → (∀ (j : Nat) o', l[j]? = some o' → L[j]? = some true → ∀ k, depOn o' k = true → L[k]? = some true) →
    (Region.wanted o (yielded l.toArray (fr u).tmps) = true → ∀ (Q : Exit → Act → World → Prop) (K : Act → World → Prop),
      (∀ a' w', a' = (fr u).put o.dst (slotOf o.dst a') → C (L.set i true) w' → F (L.set i true) i w' (slotOf o.dst a') → (∀ j, j ≠ i → L[j]? = some true → F L j w (u j) → F (L.set i true) j w' (u j)) → K a' w') → o.wp P (fr u) w K Q) ∧
    (Region.wanted o (yielded l.toArray (fr u).tmps) = false → C (L.set i true) w ∧ F (L.set i true) i w undef ∧ (∀ j, j ≠ i → L[j]? = some true → F L j w (u j) → F (L.set i true) j w (u j)))
def StepsOk2 : List Oper → Nat → Prop
  | [], _ => True
  | o :: r, i => StepOk2 P l C F fr i o ∧ StepsOk2 r (i + 1)
end
section
variable {P : Program} {l : List Oper} {C : List Bool → World → Prop} {F : List Bool → Nat → World → Value → Prop} {fr : (Nat → Value) → Act}
theorem stepsOk2_at : ∀ (r : List Oper) (i k : Nat) (o : Oper), r[k]? = some o → StepsOk2 P l C F fr r i → StepOk2 P l C F fr (i + k) o
  | [], _, _, _, h, _ => by simp at h
  | p :: r, i, 0, o, h, hs => by
    simp at h
    subst h
    exact hs.1
  | p :: r, i, k + 1, o, h, hs => by
    have := stepsOk2_at r (i + 1) k o (by simpa using h) hs.2
    rwa [show i + 1 + k = i + (k + 1) from by omega] at this
theorem wpAny_rel2 {Q : Exit → Act → World → Prop} {a0 : Act} (hfr : ∀ u, frU u l 0 a0 = fr u) (hd : dstsApart l = true) (hb : depsBefore l 0 = true)
    (hs : StepsOk2 P l C F fr l 0)
    (hend : ∀ L u w', (∀ i : Nat, i < l.length → L[i]? = some true) → C L w' → (∀ i, i < l.length → F L i w' (u i)) → Q .normal (fr u) w') :
    ∀ (fuel : Nat) (L : List Bool) (u : Nat → Value) (w : World), L.length = l.length → L.count false = fuel → C L w → (∀ i : Nat, L[i]? = some true → F L i w (u i)) → (∀ (j : Nat) o', l[j]? = some o' → L[j]? = some true → ∀ k, depOn o' k = true → L[k]? = some true) →
      wpAny P .any l.toArray Q fuel L.toArray (fr u) w := by
  intro fuel
  induction fuel with
  | zero =>
    intro L u w hL hc hC hF _
    have hall : ∀ i : Nat, i < L.length → L[i]? = some true := by
      rcases first_false L with h | ⟨i, h1, _⟩
      · exact h
      · have := List.count_pos_iff.2 (List.mem_of_getElem? h1); omega
    refine ⟨?_, hend L u w (fun i hi => hall i (by omega)) hC (fun i hi => hF i (hall i (by omega)))⟩
    refine List.eq_nil_iff_forall_not_mem.2 (fun i hi => ?_)
    obtain ⟨h0, o, ho, _⟩ := mem_ready.1 hi
    have hlt : i < l.length := by simpa using (Array.getElem?_eq_some_iff.1 ho).1
    have := hall i (by omega)
    simp [this] at h0
  | succ fuel ih =>
    intro L u w hL hc hC hF hcl
    refine ⟨fun hr => ?_, fun i hi => ?_⟩
    · exfalso
      rcases first_false L with h | ⟨i, h1, h2⟩
      · have : L.count false = 0 := List.count_eq_zero.2 (fun hmem => by
          obtain ⟨i, hi, he⟩ := List.getElem_of_mem hmem
          have := h i hi
          rw [List.getElem?_eq_getElem hi, he] at this
          simp at this)
        omega
      · have hlt : i < l.length := by rw [← hL]; exact (List.getElem?_eq_some_iff.1 h1).1
        have : i ∈ Region.ready .any l.toArray L.toArray := mem_ready.2 ⟨by simp [h1], l[i], by simp, fun e he hbi => by
          have := depsBefore_spec l 0 i l[i] (List.getElem?_eq_getElem hlt) hb e he hbi
          have := h2 e.on (by omega)
          simp [this]⟩
        rw [hr] at this
        cases this
    · obtain ⟨h0, o, ho, hdep⟩ := mem_ready.1 hi
      have ho' : l[i]? = some o := by simpa using ho
      have hlt : i < l.length := (List.getElem?_eq_some_iff.1 ho').1
      have hLi : L[i]? = some false := by
        have : i < L.length := by omega
        simp [this] at h0
        rw [List.getElem?_eq_getElem this, h0]
      have hstep := stepsOk2_at l 0 i o ho' hs
      rw [Nat.zero_add] at hstep
      obtain ⟨g1, g2⟩ := hstep L u w hLi hC (fun j hj => by
        obtain ⟨e, he, hbi, rfl⟩ := depOn_spec hj
        have := hdep e (by simpa using he) hbi
        have ht : L[e.on]? = some true := by
          cases hx : L[e.on]? with
          | none => simp [hx] at this
          | some b => simp [hx] at this; rw [this]
        exact ⟨ht, hF e.on ht⟩) hcl
      have next : ∀ v w', C (L.set i true) w' → F (L.set i true) i w' v → (∀ j, j ≠ i → L[j]? = some true → F L j w (u j) → F (L.set i true) j w' (u j)) → wpAny P .any l.toArray Q fuel (L.toArray.setIfInBounds i true) ((fr u).put o.dst v) w' := by
        intro v w' hC' hFi hst
        rw [← hfr u, frU_put l 0 i a0 o ho' hd, Nat.zero_add, hfr, List.setIfInBounds_toArray]
        refine ih (L.set i true) (upd u i v) w' (by simpa using hL) (by have := count_false_set hLi; omega) hC' (fun j hj => ?_) (fun j o' hj hjt k hk => ?_)
        case refine_2 =>
          by_cases hji : i = j
          · subst hji
            rw [ho'] at hj
            cases hj
            obtain ⟨e, he, hbi, rfl⟩ := depOn_spec hk
            have hk2 := hdep e (by simpa using he) hbi
            have ht : L[e.on]? = some true := by
              cases hx : L[e.on]? with
              | none => simp [hx] at hk2
              | some b => simp [hx] at hk2; rw [hk2]
            by_cases hie : i = e.on
            · rw [← hie] at ht; rw [hLi] at ht; cases ht
            · rw [List.getElem?_set_ne hie]; exact ht
          · rw [List.getElem?_set_ne hji] at hjt
            have ht := hcl j o' hj hjt k hk
            by_cases hik : i = k
            · rw [← hik] at ht; rw [hLi] at ht; cases ht
            · rw [List.getElem?_set_ne hik]; exact ht
        by_cases hji : j = i
        · subst hji
          simp only [upd, if_true]
          exact hFi
        · simp only [upd, if_neg hji]
          rw [List.getElem?_set_ne (by omega)] at hj
          exact hst j hji hj (hF j hj)
      unfold wpOp
      simp only [ho]
      by_cases hw : Region.wanted o (yielded l.toArray (fr u).tmps) = true
      · simp only [hw, if_true]
        refine .inl (g1 hw Q _ (fun a' w' ha hC' hFi hst => ?_))
        rw [ha]
        exact next _ _ hC' hFi hst
      · have hw' : Region.wanted o (yielded l.toArray (fr u).tmps) = false := by simpa using hw
        obtain ⟨hC', hFi, hst⟩ := g2 hw'
        simp only [hw', Bool.false_eq_true, if_false]
        exact next _ _ hC' hFi hst
/-- A region that draws its order: C L holds of the world, F L i of what operation i has left, where L tells which have come up. -/
theorem wp_region_rel2 {id : Nat} {Q : Exit → Act → World → Prop} {a0 : Act} {w : World} (C : List Bool → World → Prop) (F : List Bool → Nat → World → Value → Prop)
    (hm : P.follows .mixedOrders = true) (hfr : ∀ u, frU u l 0 a0 = fr u) (hd : (dstsApart l && depsBefore l 0) = true)
    (h0 : C (List.replicate l.length false) { w with drawn := w.drawn + 1 }) (hs : StepsOk2 P l C F fr l 0)
    (hend : ∀ L u w', (∀ i : Nat, i < l.length → L[i]? = some true) → C L w' → (∀ i, i < l.length → F L i w' (u i)) → Q .normal (fr u) w') : (Code.region id l.toArray true).wp P Q a0 w := by
  rw [Bool.and_eq_true] at hd
  refine wp_region_any hm ?_
  have hself : fr (fun i => slotOf ((l[i]?).bind (·.dst)) a0) = a0 := by
    rw [← hfr]
    refine frU_self l 0 a0 (fun k o hk => ?_)
    simp [hk]
  have := wpAny_rel2 (Q := Q) (P := P) hfr hd.1 hd.2 hs hend l.length (List.replicate l.length false) (fun i => slotOf ((l[i]?).bind (·.dst)) a0) _ (by simp) (by simp) h0 (fun i hi => by simp [List.getElem?_replicate] at hi) (fun j o' _ hj => by simp [List.getElem?_replicate] at hj)
  rw [hself] at this
  simpa using this
end
abbrev WV3 := List Bool → World → Value → Prop
def HIs (c : Value) : WV3 := fun _ _ v => v = c
/-- Known until operation k has come up. -/
def HTill (k : Nat) (p : World → Value → Prop) : WV3 := fun L w v => L[k]? = some true ∨ p w v
def HW (p : World → Value → Prop) : WV3 := fun _ w v => p w v
def HV (p : Value → Prop) : WV3 := fun _ _ v => p v
def Hof (Fs : List WV3) (L : List Bool) (i : Nat) (w : World) (v : Value) : Prop := match Fs[i]? with
  | some f => f L w v
  | none => True
def BStb (p : World → Value → Prop) : Prop := ∀ w w' v, Below w.heap.size w w' → p w v → p w' v
def HStb (f : WV3) : Prop := ∀ L i w w' v, Below w.heap.size w w' → f L w v → f (L.set i true) w' v
def HAll : List WV3 → Prop
  | [] => True
  | f :: Fs => HStb f ∧ HAll Fs
/-- Operation k comes up and may turn anything: what is known of the others. -/
def HEnd (k : Nat) : List WV3 → Nat → Prop
  | [], _ => True
  | f :: Fs, j => (j ≠ k → ∀ (L : List Bool) w w' v, L[k]? = some false → f L w v → f (L.set k true) w' v) ∧ HEnd k Fs (j + 1)
theorem count_true_set {L : List Bool} {i : Nat} (h : L[i]? = some false) : (L.set i true).count true = L.count true + 1 := by
  induction L generalizing i with
  | nil => simp at h
  | cons b L ih =>
    cases i with
    | zero => simp at h; subst h; simp
    | succ i =>
      have := ih (i := i) (by simpa using h)
      simp only [List.set_cons_succ, List.count_cons]
      omega
/-- Known, and operation k has come up. -/
def HAnd (k : Nat) (f : WV3) : WV3 := fun L w v => L[k]? = some true ∧ f L w v
/-- Operation k comes up at L and may turn anything: what is known of the others. -/
def HEndL (L : List Bool) (k : Nat) : List WV3 → Nat → Prop
  | [], _ => True
  | f :: Fs, j => (j ≠ k → ∀ w w' v, f L w v → f (L.set k true) w' v) ∧ HEndL L k Fs (j + 1)
/-- Below block number B only block R may have turned. -/
structure Mv (R B : Nat) (w w' : World) : Prop where
  os : w'.os = w.os
  tape : w'.tape = w.tape
  output : w'.output = w.output
  size : w.heap.size ≤ w'.heap.size
  block : ∀ k, k < B → k ≠ R → w'.heap[k]? = w.heap[k]?
theorem Mv.refl (R B : Nat) (w : World) : Mv R B w w := ⟨rfl, rfl, rfl, Nat.le_refl _, fun _ _ _ => rfl⟩
theorem Mv.trans {R B : Nat} {a b c : World} (h : Mv R B a b) (k : Mv R B b c) : Mv R B a c :=
  ⟨k.os.trans h.os, k.tape.trans h.tape, k.output.trans h.output, Nat.le_trans h.size k.size, fun i hi hne => (k.block i hi hne).trans (h.block i hi hne)⟩
theorem Mv.mono {R B B' : Nat} {w w' : World} (h : Mv R B w w') (hB : B' ≤ B) : Mv R B' w w' := ⟨h.os, h.tape, h.output, h.size, fun k hk hne => h.block k (by omega) hne⟩
theorem Mv.of_below {R B : Nat} {w w' : World} (h : Below B w w') : Mv R B w w' := ⟨h.os, h.tape, h.output, h.size, fun k hk _ => h.block k hk⟩
theorem Mv.below {R B C : Nat} {w w' : World} (h : Mv R B w w') (hB : C ≤ B) (hR : C ≤ R) : Below C w w' := ⟨h.os, h.tape, h.output, h.size, fun k hk => h.block k (by omega) (by omega)⟩
theorem Mv.alloc {R B : Nat} {a w : World} (h : Mv R B a w) (hB : B ≤ w.heap.size) (o : Obj) : Mv R B a (w.alloc o) := h.trans (Mv.of_below ((Below.refl _ _).alloc hB o))
theorem Mv.setCell {R B : Nat} {a w : World} (h : Mv R B a w) {p : Addr} (hp : B ≤ p.block) (u : Value) : Mv R B a (w.setCell p u) := h.trans (Mv.of_below ((Below.refl _ _).setCell hp u))
theorem Mv.drewN {R B : Nat} {w w' : World} (h : Mv R B w w') : ∀ n, Mv R B w (w'.drewN n)
  | 0 => h
  | _ + 1 => ⟨h.os, h.tape, h.output, h.size, h.block⟩
theorem Mv.drew {R B : Nat} {w w' : World} (h : Mv R B w w') : Mv R B w w'.drew := ⟨h.os, h.tape, h.output, h.size, h.block⟩
theorem Mv.set (R B : Nat) (w : World) (o : Nat) (v : Value) : Mv R B w (w.setCell ⟨R, o, none⟩ v) := ⟨rfl, rfl, rfl, by simp [World.setCell], fun k _ hne => Below.heap_setCell _ _ _ _ hne⟩
theorem mvC {R B : Nat} {w w' : World} (h : Mv R B w w') (b : Nat) (hb : b < B) (hne : b ≠ R) : ∀ o, w'.cell? ⟨b, o, none⟩ = w.cell? ⟨b, o, none⟩ := fun o => World.cell?_of_block (a := ⟨b, o, none⟩) (h.block b hb hne)
theorem mvF {R B : Nat} {w w' : World} (h : Mv R B w w') (b : Nat) (hb : b < B) (hne : b ≠ R) : ∀ o, w'.frozen? ⟨b, o, none⟩ = w.frozen? ⟨b, o, none⟩ := fun o => World.frozen?_of_block (a := ⟨b, o, none⟩) (h.block b hb hne)
/-- The code: its letters lie in a block before R. -/
def Cd (R : Nat) (w : World) (sv : Value) (bs : List Int) : Prop :=
  ∃ a cap, sv = .slice a bs.length cap ∧ bs.length ≤ 2000 ∧ bs.length ≤ cap ∧ cap ≤ maxLen ∧ ∀ (k : Nat) x, bs[k]? = some x → 0 ≤ x ∧ x ≤ 255 ∧ ∃ b o, a = some ⟨b, o, none⟩ ∧ b < R ∧ w.cell? ⟨b, o + k, none⟩ = some (.int .u8 x)
/-- The reader at place p of the code. -/
structure RdAt (R : Nat) (bs : List Int) (w : World) (p : Nat) : Prop where
  lt : R < w.heap.size
  code : ∃ sv, w.cell? ⟨R, 0, none⟩ = some sv ∧ Cd R w sv bs
  place : w.cell? ⟨R, 1, none⟩ = some (.int .i64 p)
  frz : ∀ j, w.frozen? ⟨R, j, none⟩ = false
theorem RdAt.up {R : Nat} {bs : List Int} {w w' : World} {p : Nat} (h : RdAt R bs w p) (hb : Below (R + 1) w w') : RdAt R bs w' p := by
  obtain ⟨h1, ⟨sv, h2, a, cap, e, l1, l2, l3, hx⟩, h3, h4⟩ := h
  have hc : ∀ b o, b < R + 1 → w'.cell? ⟨b, o, none⟩ = w.cell? ⟨b, o, none⟩ := fun b o hb' => hb.cell (p := ⟨b, o, none⟩) hb'
  refine ⟨Nat.lt_of_lt_of_le h1 hb.size, ⟨sv, (hc R 0 (by omega)).trans h2, a, cap, e, l1, l2, l3, fun k x hk => ?_⟩, (hc R 1 (by omega)).trans h3, fun j => (hb.frozen (p := ⟨R, j, none⟩) (by simp)).trans (h4 j)⟩
  obtain ⟨g1, g2, b, o, g3, g4, g5⟩ := hx k x hk
  exact ⟨g1, g2, b, o, g3, g4, (hc b (o + k) (by omega)).trans g5⟩
/-- The reader is left alone by what turns nothing. -/
theorem RdAt.below {R : Nat} {bs : List Int} {w w' : World} {p : Nat} (h : RdAt R bs w p) (hb : Below w.heap.size w w') : RdAt R bs w' p := by
  obtain ⟨h1, ⟨sv, h2, a, cap, e, l1, l2, l3, hx⟩, h3, h4⟩ := h
  refine ⟨Nat.lt_of_lt_of_le h1 hb.size, ⟨sv, (hb.cell h1).trans h2, a, cap, e, l1, l2, l3, fun k x hk => ?_⟩, (hb.cell h1).trans h3, fun j => (hb.frozen h1).trans (h4 j)⟩
  obtain ⟨g1, g2, b, o, g3, g4, g5⟩ := hx k x hk
  exact ⟨g1, g2, b, o, g3, g4, (hb.cell (p := ⟨b, o + k, none⟩) (Nat.lt_trans g4 h1)).trans g5⟩
theorem RdAt.step {R : Nat} {bs : List Int} {w : World} {p : Nat} (h : RdAt R bs w p) : RdAt R bs (w.setCell ⟨R, 1, none⟩ (.int .i64 ((p : Int) + 1))) (p + 1) := by
  obtain ⟨h1, ⟨sv, h2, a, cap, e, l1, l2, l3, hx⟩, h3, h4⟩ := h
  refine ⟨by simpa [World.setCell] using h1, ⟨sv, ?_, a, cap, e, l1, l2, l3, fun k x hk => ?_⟩, ?_, fun j => ?_⟩
  · rw [World.cell?_setCell_other _ _ _ _ (by simp)]; exact h2
  · obtain ⟨g1, g2, b, o, g3, g4, g5⟩ := hx k x hk
    refine ⟨g1, g2, b, o, g3, g4, ?_⟩
    rw [World.cell?_setCell_other _ _ _ _ (by intro e; simp at e; try omega)]; exact g5
  · rw [World.cell?_setCell_same' _ _ _ (by rw [h3]; rfl)]; simp
  · simpa using h4 j
def Picked (R : Nat) (bs : List Int) (p : Nat) (n : Int) (w : World) (e : Ending) (w' : World) : Prop :=
  ∃ x : Int, e = .returned (.int .i64 x) ∧ 0 ≤ x ∧ (1 ≤ n → x < n) ∧ (n < 1 → x = 0) ∧ RdAt R bs w' (p + 1) ∧ Mv R w.heap.size w w'
theorem RdAt.drewN {R : Nat} {bs : List Int} {w : World} {p : Nat} (h : RdAt R bs w p) (n : Nat) : RdAt R bs (w.drewN n) p := ⟨h.lt, h.code, h.place, h.frz⟩
def Odded (R : Nat) (bs : List Int) (p : Nat) (w : World) (e : Ending) (w' : World) : Prop :=
  ∃ (b : Bool) (q : Nat), e = .returned (.bool b) ∧ RdAt R bs w' q ∧ q ≤ p + 1 ∧ Mv R w.heap.size w w'
/-- The letters of a code that comes in. -/
def CodeAt (w : World) (v : Value) (bs : List Int) : Prop := SlAt 1 (fun n : Int => [.int .u8 n]) w v bs ∧ ∀ n ∈ bs, 0 ≤ n ∧ n ≤ 255
theorem frz_new (w : World) (cs : Array Value) (ty : TypeId) (j : Nat) : (w.alloc (.cells cs ty)).frozen? ⟨w.heap.size, j, none⟩ = false := by
  have h : (w.alloc (.cells cs ty)).heap[w.heap.size]? = some (.cells cs ty (0, 0)) := heap_alloc_new w _
  simp only [World.frozen?, h]
  simp
def Opened (w : World) (e : Ending) (w' : World) : Prop := ∃ R bs, e = .returned (.pointer (some ⟨R, 0, none⟩)) ∧ w.heap.size ≤ R ∧ RdAt R bs w' 0 ∧ Below w.heap.size w w'
def bof (Fs : List (World → Value → Prop)) (i : Nat) : World → Value → Prop := match Fs[i]? with
  | some f => f
  | none => fun _ _ => True
def BAll : List (World → Value → Prop) → Prop
  | [] => True
  | f :: Fs => BStb f ∧ BAll Fs
theorem bof_stb : ∀ (Fs : List (World → Value → Prop)), BAll Fs → ∀ (i : Nat) (w w' : World) (v : Value), Below w.heap.size w w' → bof Fs i w v → bof Fs i w' v
  | [], _, _, _, _, _, _, h => h
  | _ :: _, hs, 0, w, w', v, hb, h => hs.1 w w' v hb h
  | _ :: Fs, hs, i + 1, w, w', v, hb, h => bof_stb Fs hs.2 i w w' v hb h
def BIs (c : Value) : World → Value → Prop := fun _ v => v = c
theorem bst_is (c : Value) : BStb (BIs c) := fun _ _ _ _ h => h
def BAny : World → Value → Prop := fun _ _ => True
def BV (p : Value → Prop) : World → Value → Prop := fun _ v => p v
theorem bst_v (p : Value → Prop) : BStb (BV p) := fun _ _ _ _ h => h
theorem bis {c : Value} {w : World} {v : Value} (h : BIs c w v) : v = c := h
section
variable (P : Program) (W : World) (Fs : List (World → Value → Prop)) (fr : (Nat → Value) → Act)
/-- What is to be shown of operation number i. -/
def StepB (i : Nat) (o : Oper) : Prop :=
  o.guard = none ∧ ∀ (u : Nat → Value) (w : World), Below W.heap.size W w → (∀ j, depOn o j = true → bof Fs j w (u j)) →
    ∀ (Q : Exit → Act → World → Prop) (K : Act → World → Prop), (∀ a' w', a' = (fr u).put o.dst (slotOf o.dst a') → Below w.heap.size w w' → bof Fs i w' (slotOf o.dst a') → K a' w') → o.wp P (fr u) w K Q
def StepsB : List Oper → Nat → Prop
  | [], _ => True
  | o :: r, i => StepB P W Fs fr i o ∧ StepsB r (i + 1)
end
section
variable {P : Program} {l : List Oper} {W : World} {Fs : List (World → Value → Prop)} {fr : (Nat → Value) → Act}
theorem stepsB_ok {N : Nat} : ∀ (r : List Oper) (i : Nat), StepsB P W Fs fr r i → StepsOk P l N (fun _ w => Below W.heap.size W w) (fun a b => Below a.heap.size a b) (bof Fs) fr r i
  | [], _, _ => trivial
  | _o :: r, i, h => ⟨step_plain h.1.1 (fun _m u w _ hC hd Q K hK => h.1.2 u w hC hd Q K (fun a' w' ha hb hF => hK a' w' ha (hC.trans (hb.mono hC.size)) hb hF)), stepsB_ok r (i + 1) h.2⟩
theorem wp_region_bel {id : Nat} {Q : Exit → Act → World → Prop} {a0 : Act} (Fs : List (World → Value → Prop)) (hm : P.follows .mixedOrders = true) (hfr : ∀ u, frU u l 0 a0 = fr u) (hd : (dstsApart l && depsBefore l 0) = true)
    (hst : BAll Fs) (hs : StepsB P W Fs fr l 0)
    (hend : ∀ u w', Below W.heap.size W w' → (∀ i, i < l.length → bof Fs i w' (u i)) → Q .normal (fr u) w') : (Code.region id l.toArray true).wp P Q a0 W :=
  wp_region_rel (N := l.length) (fun _ w => Below W.heap.size W w) (fun a b => Below a.heap.size a b) (bof Fs) hm rfl hfr hd (fun i w w' v hb h => bof_stb Fs hst i w w' v hb h)
    ⟨rfl, rfl, rfl, Nat.le_refl _, fun _ _ => rfl⟩ (stepsB_ok l 0 hs) hend
end
theorem stB {P : Program} {W : World} {Fs : List (World → Value → Prop)} {fr : (Nat → Value) → Act} {i : Nat} {o : Oper} (hg : o.guard = none)
    (h : ∀ (u : Nat → Value) (w : World), Below W.heap.size W w → (∀ j, depOn o j = true → bof Fs j w (u j)) →
      ∀ (Q : Exit → Act → World → Prop) (K : Act → World → Prop), (∀ a' w', a' = (fr u).put o.dst (slotOf o.dst a') → Below w.heap.size w w' → bof Fs i w' (slotOf o.dst a') → K a' w') → o.wp P (fr u) w K Q) : StepB P W Fs fr i o := ⟨hg, h⟩
section
variable (P : Program) (l : List Oper) (W : World) (Fs : List (World → Value → Prop)) (fr : (Nat → Value) → Act)
def StepG (i : Nat) (o : Oper) : Prop :=
  ∀ (u : Nat → Value) (w : World), Below W.heap.size W w → (∀ j, depOn o j = true → bof Fs j w (u j)) → Region.wanted o (yielded l.toArray (fr u).tmps) = true ∧
    ∀ (Q : Exit → Act → World → Prop) (K : Act → World → Prop), (∀ a' w', a' = (fr u).put o.dst (slotOf o.dst a') → Below w.heap.size w w' → bof Fs i w' (slotOf o.dst a') → K a' w') → o.wp P (fr u) w K Q
def StepsG : List Oper → Nat → Prop
  | [], _ => True
  | o :: r, i => StepG P l W Fs fr i o ∧ StepsG r (i + 1)
end
section
variable {P : Program} {l : List Oper} {W : World} {Fs : List (World → Value → Prop)} {fr : (Nat → Value) → Act}
theorem stepsG_ok {N : Nat} : ∀ (r : List Oper) (i : Nat), StepsG P l W Fs fr r i → StepsOk P l N (fun _ w => Below W.heap.size W w) (fun a b => Below a.heap.size a b) (bof Fs) fr r i
  | [], _, _ => trivial
  | _ :: r, i, h => ⟨fun _ u w _ hC hd => ⟨fun _ Q K hK => (h.1 u w hC hd).2 Q K (fun a' w' ha hb hF => hK a' w' ha (hC.trans (hb.mono hC.size)) hb hF), fun hw => by rw [(h.1 u w hC hd).1] at hw; cases hw⟩, stepsG_ok r (i + 1) h.2⟩
theorem wp_region_belG {id : Nat} {Q : Exit → Act → World → Prop} {a0 : Act} (Fs : List (World → Value → Prop)) (hm : P.follows .mixedOrders = true) (hfr : ∀ u, frU u l 0 a0 = fr u) (hd : (dstsApart l && depsBefore l 0) = true)
    (hst : BAll Fs) (hs : StepsG P l W Fs fr l 0)
    (hend : ∀ u w', Below W.heap.size W w' → (∀ i, i < l.length → bof Fs i w' (u i)) → Q .normal (fr u) w') : (Code.region id l.toArray true).wp P Q a0 W :=
  wp_region_rel (N := l.length) (fun _ w => Below W.heap.size W w) (fun a b => Below a.heap.size a b) (bof Fs) hm rfl hfr hd (fun i w w' v hb h => bof_stb Fs hst i w w' v hb h)
    ⟨rfl, rfl, rfl, Nat.le_refl _, fun _ _ => rfl⟩ (stepsG_ok l 0 hs) hend
end
theorem stG {P : Program} {l : List Oper} {W : World} {Fs : List (World → Value → Prop)} {fr : (Nat → Value) → Act} {i : Nat} {o : Oper}
    (h : ∀ (u : Nat → Value) (w : World), Below W.heap.size W w → (∀ j, depOn o j = true → bof Fs j w (u j)) → Region.wanted o (yielded l.toArray (fr u).tmps) = true ∧
      ∀ (Q : Exit → Act → World → Prop) (K : Act → World → Prop), (∀ a' w', a' = (fr u).put o.dst (slotOf o.dst a') → Below w.heap.size w w' → bof Fs i w' (slotOf o.dst a') → K a' w') → o.wp P (fr u) w K Q) : StepG P l W Fs fr i o := h
/-- The last operation waits for all others. -/
def lastAll (l : List Oper) : Bool := match l.getLast? with
  | some o => (List.range (l.length - 1)).all fun i => depOn o i
  | none => false
section
variable (P : Program) (l : List Oper) (N : Nat) (C : Nat → World → Prop) (E : World → World → Prop) (F G : Nat → World → Value → Prop) (D : World → Prop) (fr : (Nat → Value) → Act)
/-- What is to be shown of operation number i, but the last. -/
def StepS (i : Nat) (o : Oper) : Prop :=
  o.guard = none ∧ ∀ (m : Nat) (u : Nat → Value) (w : World), m < N → C m w → (∀ j, depOn o j = true → F j w (u j)) →
    ∀ (Q : Exit → Act → World → Prop) (K : Act → World → Prop), (∀ a' w', a' = (fr u).put o.dst (slotOf o.dst a') → C (m + 1) w' → E w w' → F i w' (slotOf o.dst a') → K a' w') → o.wp P (fr u) w K Q
/-- What is to be shown of the last. -/
def StepL (i : Nat) (o : Oper) : Prop :=
  o.guard = none ∧ ∀ (m : Nat) (u : Nat → Value) (w : World), m < N → C m w → (∀ j, j < i → F j w (u j)) →
    ∀ (Q : Exit → Act → World → Prop) (K : Act → World → Prop), (∀ a' w', a' = (fr u).put o.dst (slotOf o.dst a') → D w' → (∀ j, j < i → G j w' (u j)) → K a' w') → o.wp P (fr u) w K Q
def StepsS : List Oper → Nat → Prop
  | [], _ => True
  | [o], i => StepL P N C F G D fr i o
  | o :: r, i => StepS P N C E F fr i o ∧ StepsS r (i + 1)
end
section
variable {P : Program} {l : List Oper} {C : Nat → World → Prop} {E : World → World → Prop} {F G : Nat → World → Value → Prop} {D : World → Prop} {fr : (Nat → Value) → Act}
def CS (n : Nat) (C : Nat → World → Prop) (D : World → Prop) (L : List Bool) (w : World) : Prop := L.length = n + 1 ∧ ((L[n]? = some true ∧ D w) ∨ (L[n]? = some false ∧ C (L.count true) w))
def FSk2 (n : Nat) (F G : Nat → World → Value → Prop) (L : List Bool) (i : Nat) (w : World) (v : Value) : Prop := (L[n]? = some true ∧ (i < n → G i w v)) ∨ (L[n]? = some false ∧ F i w v)
theorem count_true_lt : ∀ {L : List Bool} {n : Nat}, L[n]? = some false → L.count true < L.length
  | [], _, h => by simp at h
  | b :: L, 0, h => by
    simp at h
    subst h
    have := List.count_le_length (a := true) (l := L)
    simp only [List.count_cons, List.length_cons]
    simp
    omega
  | b :: L, n + 1, h => by
    have := count_true_lt (L := L) (n := n) (by simpa using h)
    simp only [List.count_cons, List.length_cons]
    split <;> omega
theorem stepsS_ok (n : Nat) (hst : ∀ i w w' v, E w w' → F i w v → F i w' v) {s : Oper} (hl : l[n]? = some s) (hall : ∀ i, i < n → depOn s i = true) : ∀ (r : List Oper) (i : Nat), r.getLast? = some s → i + r.length = n + 1 → StepsS P (n + 1) C E F G D fr r i → StepsOk2 P l (CS n C D) (FSk2 n F G) fr r i
  | [], _, _, _, _ => trivial
  | [o], i, hg, hi, h => by
    simp only [List.length_singleton] at hi
    obtain rfl : i = n := by omega
    refine ⟨fun L u w h1 h2 h3 h4 => ⟨fun _ Q K hK => ?_, fun hw => by simp [Region.wanted, h.1] at hw⟩, trivial⟩
    have hC : C (L.count true) w := by
      rcases h2.2 with h5 | h5
      · rw [h1] at h5; simp at h5
      · exact h5.2
    obtain rfl : o = s := by simpa using hg
    have hnt : L[i]? ≠ some true := by rw [h1]; simp
    have hset : (L.set i true)[i]? = some true := List.getElem?_set_self (List.getElem?_eq_some_iff.1 h1).1
    have hnt2 : ∀ {p : Prop}, ¬ (L[i]? = some true ∧ p) := fun h => hnt h.1
    exact h.2 (L.count true) u w (by have := count_true_lt h1; have := h2.1; omega) hC (fun j hj => (((h3 j (hall j hj)).2).resolve_left hnt2).2) Q K
      (fun a' w' ha hD hG => hK a' w' ha ⟨by rw [List.length_set]; exact h2.1, .inl ⟨hset, hD⟩⟩ (.inl ⟨hset, fun h => absurd h (by omega)⟩) (fun j _ _ _ => .inl ⟨hset, fun h => hG j h⟩))
  | o :: p :: r, i, hg, hi, h => by
    refine ⟨fun L u w h1 h2 h3 h4 => ⟨fun _ Q K hK => ?_, fun hw => by simp [Region.wanted, h.1.1] at hw⟩, stepsS_ok n hst hl hall (p :: r) (i + 1) (by simpa using hg) (by simp only [List.length_cons] at hi ⊢; omega) h.2⟩
    have hin : i < n := by simp only [List.length_cons] at hi; omega
    have hC : L[n]? = some false ∧ C (L.count true) w := by
      rcases h2.2 with h5 | h5
      · have := h4 n s hl h5.1 i (hall i hin)
        rw [h1] at this; cases this
      · exact h5
    have hnt : L[n]? ≠ some true := by rw [hC.1]; simp
    refine h.1.2 (L.count true) u w (by have := count_true_lt hC.1; have := h2.1; omega) hC.2 (fun j hj => (((h3 j hj).2).resolve_left (fun h => hnt h.1)).2) Q K (fun a' w' ha hC' hE hF => ?_)
    refine hK a' w' ha ⟨by rw [List.length_set]; exact h2.1, .inr ⟨by rw [List.getElem?_set_ne (by omega)]; exact hC.1, by rw [count_true_set h1]; exact hC'⟩⟩ (.inr ⟨by rw [List.getElem?_set_ne (by omega)]; exact hC.1, hF⟩) (fun j hj hLj hx => .inr ⟨by rw [List.getElem?_set_ne (by omega)]; exact hC.1, hst j _ _ _ hE (hx.resolve_left (fun h => hnt h.1)).2⟩)
theorem wp_region_last {id : Nat} {Q : Exit → Act → World → Prop} {a0 : Act} {w : World} (C : Nat → World → Prop) (E : World → World → Prop) (F G : Nat → World → Value → Prop) (D : World → Prop) (n : Nat)
    (hm : P.follows .mixedOrders = true) (hn : l.length = n + 1) (hfr : ∀ u, frU u l 0 a0 = fr u) (hd : (dstsApart l && depsBefore l 0) = true) (hla : lastAll l = true)
    (hst : ∀ i w w' v, E w w' → F i w v → F i w' v) (h0 : C 0 { w with drawn := w.drawn + 1 }) (hs : StepsS P (n + 1) C E F G D fr l 0)
    (hend : ∀ u w', D w' → (∀ j, j < n → G j w' (u j)) → Q .normal (fr u) w') : (Code.region id l.toArray true).wp P Q a0 w := by
  obtain ⟨s, hg⟩ : ∃ s, l.getLast? = some s := by
    cases h : l.getLast? with
    | none => rw [List.getLast?_eq_none_iff] at h; rw [h] at hn; simp at hn
    | some s => exact ⟨s, rfl⟩
  have hl : l[n]? = some s := by rw [List.getLast?_eq_getElem?, hn] at hg; simpa using hg
  have hall : ∀ i, i < n → depOn s i = true := by
    intro i hi
    unfold lastAll at hla
    rw [hg] at hla
    exact (List.all_eq_true.1 hla) i (List.mem_range.2 (by omega))
  refine wp_region_rel2 (CS n C D) (FSk2 n F G) hm hfr hd ⟨by simp [hn], .inr ⟨by simp [hn], by rw [show (List.replicate l.length false).count true = 0 from by simp [List.count_replicate]]; exact h0⟩⟩ (stepsS_ok n hst hl hall l 0 hg (by omega) hs) (fun L u w' hL hC hF => hend u w' ?_ (fun j hj => ?_))
  · rcases hC.2 with h | h
    · exact h.2
    · have := hL n (by omega)
      rw [h.1] at this; simp at this
  · rcases hF j (by omega) with h | h
    · exact h.2 hj
    · have := hL n (by omega)
      rw [h.1] at this; simp at this
end
theorem stSb {P : Program} {W : World} {N : Nat} {Fs : List (World → Value → Prop)} {fr : (Nat → Value) → Act} {i : Nat} {o : Oper} (hg : o.guard = none)
    (h : ∀ (u : Nat → Value) (w : World), Below W.heap.size W w → (∀ j, depOn o j = true → bof Fs j w (u j)) →
      ∀ (Q : Exit → Act → World → Prop) (K : Act → World → Prop), (∀ a' w', a' = (fr u).put o.dst (slotOf o.dst a') → Below w.heap.size w w' → bof Fs i w' (slotOf o.dst a') → K a' w') → o.wp P (fr u) w K Q) :
    StepS P N (fun _ w => Below W.heap.size W w) (fun a b => Below a.heap.size a b) (bof Fs) fr i o :=
  ⟨hg, fun _m u w _hm hC hd Q K hK => h u w hC hd Q K (fun a' w' ha hb hF => hK a' w' ha (hC.trans (hb.mono hC.size)) hb hF)⟩
/-- What the reader's moves keep. -/
def MStb (R : Nat) (p : World → Value → Prop) : Prop := ∀ w w' v, Mv R w.heap.size w w' → p w v → p w' v
def MAll (R : Nat) : List (World → Value → Prop) → Prop
  | [] => True
  | f :: Fs => MStb R f ∧ MAll R Fs
/-- A small list of numbers, clear of the reader. -/
def FLt (R n : Nat) (lo hi : Int) : World → Value → Prop := fun w v => ∃ b, v = .slice (some ⟨b, 0, none⟩) n n ∧ b < w.heap.size ∧ b ≠ R ∧ ∀ j, j < n → ∃ x, w.cell? ⟨b, j, none⟩ = some (.int .i64 x) ∧ lo ≤ x ∧ x ≤ hi
/-- An address of such a number. -/
def FAd (R : Nat) (lo hi : Int) : World → Value → Prop := fun w v => ∃ b o, v = .pointer (some ⟨b, o, none⟩) ∧ b < w.heap.size ∧ b ≠ R ∧ ∃ x, w.cell? ⟨b, o, none⟩ = some (.int .i64 x) ∧ lo ≤ x ∧ x ≤ hi
/-- The reader at a place not far behind q0, all else of W as before. -/
def CM (R : Nat) (bs : List Int) (q0 k : Nat) (W : World) (m : Nat) (w : World) : Prop := ∃ q, RdAt R bs w q ∧ q ≤ q0 + k * m ∧ Mv R W.heap.size W w
theorem CM.same {R : Nat} {bs : List Int} {q0 k : Nat} {W : World} {m : Nat} {w : World} (h : CM R bs q0 k W m w) : CM R bs q0 k W (m + 1) w :=
  let ⟨q, h1, h2, h3⟩ := h; ⟨q, h1, by rw [Nat.mul_succ]; omega, h3⟩
theorem CM.mv {R : Nat} {bs : List Int} {q0 k : Nat} {W : World} {m : Nat} {w w' : World} (h : CM R bs q0 k W m w) {q : Nat} (hr : RdAt R bs w' q) (hq : q ≤ q0 + k * m + k) (hm : Mv R w.heap.size w w') : CM R bs q0 k W (m + 1) w' := by
  obtain ⟨q', _, _, h3⟩ := h
  exact ⟨q, hr, by rw [Nat.mul_succ]; omega, h3.trans (hm.mono h3.size)⟩
theorem CM.below {R : Nat} {bs : List Int} {q0 k : Nat} {W : World} {m : Nat} {w w' : World} (h : CM R bs q0 k W m w) (hb : Below w.heap.size w w') : CM R bs q0 k W (m + 1) w' := by
  obtain ⟨q, h1, h2, h3⟩ := h
  exact ⟨q, h1.below hb, by rw [Nat.mul_succ]; omega, h3.trans ((Mv.of_below hb).mono h3.size)⟩
section
variable {P : Program} {l : List Oper} {fr : (Nat → Value) → Act}
end
/-- Operation i comes before operation a in every order. -/
def reachB (l : List Oper) : Nat → Nat → Nat → Bool
  | 0, _, _ => false
  | f + 1, a, i => match l[a]? with
    | some o => depOn o i || (List.range a).any fun j => depOn o j && reachB l f j i
    | none => false
theorem reach_done {l : List Oper} {L : List Bool} (hcl : ∀ (j : Nat) o, l[j]? = some o → L[j]? = some true → ∀ k, depOn o k = true → L[k]? = some true) : ∀ (f a i : Nat), reachB l f a i = true → L[a]? = some true → L[i]? = some true
  | 0, _, _, h, _ => by simp [reachB] at h
  | f + 1, a, i, h, ha => by
    unfold reachB at h
    cases hx : l[a]? with
    | none => rw [hx] at h; simp at h
    | some o =>
      rw [hx] at h
      simp only [Bool.or_eq_true, List.any_eq_true, Bool.and_eq_true] at h
      rcases h with h | ⟨j, _, h1, h2⟩
      · exact hcl a o hx ha i h
      · exact reach_done hcl f j i h2 (hcl a o hx ha j h1)
section
variable (P : Program) (l : List Oper) (C : List Bool → World → Prop) (F : List Bool → Nat → World → Value → Prop) (fr : (Nat → Value) → Act) (u0 : Nat → Value)
/-- What is to be shown of operation number i, where L tells which have come up. -/
def StepOk2I (i : Nat) (o : Oper) : Prop :=
  ∀ (L : List Bool) (u : Nat → Value) (w : World), L[i]? = some false → C L w → (∀ j, depOn o j = true → L[j]? = some true ∧ F L j w (u j)) → (∀ (j : Nat) o', l[j]? = some o' → L[j]? = some true → ∀ k, depOn o' k = true → L[k]? = some true) → (∀ (j : Nat) o', l[j]? = some o' → depOn o' i = true → u j = u0 j) →
    (Region.wanted o (yielded l.toArray (fr u).tmps) = true → ∀ (Q : Exit → Act → World → Prop) (K : Act → World → Prop),
      (∀ a' w', a' = (fr u).put o.dst (slotOf o.dst a') → C (L.set i true) w' → F (L.set i true) i w' (slotOf o.dst a') → (∀ j, j ≠ i → L[j]? = some true → F L j w (u j) → F (L.set i true) j w' (u j)) → K a' w') → o.wp P (fr u) w K Q) ∧
    (Region.wanted o (yielded l.toArray (fr u).tmps) = false → C (L.set i true) w ∧ F (L.set i true) i w undef ∧ (∀ j, j ≠ i → L[j]? = some true → F L j w (u j) → F (L.set i true) j w (u j)))
def StepsOk2I : List Oper → Nat → Prop
  | [], _ => True
  | o :: r, i => StepOk2I P l C F fr u0 i o ∧ StepsOk2I r (i + 1)
end
section
variable {P : Program} {l : List Oper} {C : List Bool → World → Prop} {F : List Bool → Nat → World → Value → Prop} {fr : (Nat → Value) → Act} {u0 : Nat → Value}
theorem stepsOk2I_at : ∀ (r : List Oper) (i k : Nat) (o : Oper), r[k]? = some o → StepsOk2I P l C F fr u0 r i → StepOk2I P l C F fr u0 (i + k) o
  | [], _, _, _, h, _ => by simp at h
  | p :: r, i, 0, o, h, hs => by
    simp at h
    subst h
    exact hs.1
  | p :: r, i, k + 1, o, h, hs => by
    have := stepsOk2I_at r (i + 1) k o (by simpa using h) hs.2
    rwa [show i + 1 + k = i + (k + 1) from by omega] at this
theorem wpAny_rel2I {Q : Exit → Act → World → Prop} {a0 : Act} (hfr : ∀ u, frU u l 0 a0 = fr u) (hd : dstsApart l = true) (hb : depsBefore l 0 = true)
    (hs : StepsOk2I P l C F fr u0 l 0)
    (hend : ∀ L u w', (∀ i : Nat, i < l.length → L[i]? = some true) → C L w' → (∀ i, i < l.length → F L i w' (u i)) → Q .normal (fr u) w') :
    ∀ (fuel : Nat) (L : List Bool) (u : Nat → Value) (w : World), L.length = l.length → L.count false = fuel → C L w → (∀ i : Nat, L[i]? = some true → F L i w (u i)) → (∀ (j : Nat) o', l[j]? = some o' → L[j]? = some true → ∀ k, depOn o' k = true → L[k]? = some true) → (∀ j : Nat, L[j]? ≠ some true → u j = u0 j) →
      wpAny P .any l.toArray Q fuel L.toArray (fr u) w := by
  intro fuel
  induction fuel with
  | zero =>
    intro L u w hL hc hC hF _ _
    have hall : ∀ i : Nat, i < L.length → L[i]? = some true := by
      rcases first_false L with h | ⟨i, h1, _⟩
      · exact h
      · have := List.count_pos_iff.2 (List.mem_of_getElem? h1); omega
    refine ⟨?_, hend L u w (fun i hi => hall i (by omega)) hC (fun i hi => hF i (hall i (by omega)))⟩
    refine List.eq_nil_iff_forall_not_mem.2 (fun i hi => ?_)
    obtain ⟨h0, o, ho, _⟩ := mem_ready.1 hi
    have hlt : i < l.length := by simpa using (Array.getElem?_eq_some_iff.1 ho).1
    have := hall i (by omega)
    simp [this] at h0
  | succ fuel ih =>
    intro L u w hL hc hC hF hcl hI
    refine ⟨fun hr => ?_, fun i hi => ?_⟩
    · exfalso
      rcases first_false L with h | ⟨i, h1, h2⟩
      · have : L.count false = 0 := List.count_eq_zero.2 (fun hmem => by
          obtain ⟨i, hi, he⟩ := List.getElem_of_mem hmem
          have := h i hi
          rw [List.getElem?_eq_getElem hi, he] at this
          simp at this)
        omega
      · have hlt : i < l.length := by rw [← hL]; exact (List.getElem?_eq_some_iff.1 h1).1
        have : i ∈ Region.ready .any l.toArray L.toArray := mem_ready.2 ⟨by simp [h1], l[i], by simp, fun e he hbi => by
          have := depsBefore_spec l 0 i l[i] (List.getElem?_eq_getElem hlt) hb e he hbi
          have := h2 e.on (by omega)
          simp [this]⟩
        rw [hr] at this
        cases this
    · obtain ⟨h0, o, ho, hdep⟩ := mem_ready.1 hi
      have ho' : l[i]? = some o := by simpa using ho
      have hlt : i < l.length := (List.getElem?_eq_some_iff.1 ho').1
      have hLi : L[i]? = some false := by
        have : i < L.length := by omega
        simp [this] at h0
        rw [List.getElem?_eq_getElem this, h0]
      have hstep := stepsOk2I_at l 0 i o ho' hs
      rw [Nat.zero_add] at hstep
      obtain ⟨g1, g2⟩ := hstep L u w hLi hC (fun j hj => by
        obtain ⟨e, he, hbi, rfl⟩ := depOn_spec hj
        have := hdep e (by simpa using he) hbi
        have ht : L[e.on]? = some true := by
          cases hx : L[e.on]? with
          | none => simp [hx] at this
          | some b => simp [hx] at this; rw [this]
        exact ⟨ht, hF e.on ht⟩) hcl (fun j o' hj hji => hI j (fun ht => by
        have := hcl j o' hj ht i hji
        rw [hLi] at this; cases this))
      have next : ∀ v w', C (L.set i true) w' → F (L.set i true) i w' v → (∀ j, j ≠ i → L[j]? = some true → F L j w (u j) → F (L.set i true) j w' (u j)) → wpAny P .any l.toArray Q fuel (L.toArray.setIfInBounds i true) ((fr u).put o.dst v) w' := by
        intro v w' hC' hFi hst
        rw [← hfr u, frU_put l 0 i a0 o ho' hd, Nat.zero_add, hfr, List.setIfInBounds_toArray]
        refine ih (L.set i true) (upd u i v) w' (by simpa using hL) (by have := count_false_set hLi; omega) hC' (fun j hj => ?_) (fun j o' hj hjt k hk => ?_) (fun j hj => ?_)
        case refine_3 =>
          have hji : j ≠ i := by
            intro e; subst e
            exact hj (by rw [List.getElem?_set_self (List.getElem?_eq_some_iff.1 hLi).1])
          simp only [upd, if_neg hji]
          rw [List.getElem?_set_ne (by omega)] at hj
          exact hI j hj
        case refine_2 =>
          by_cases hji : i = j
          · subst hji
            rw [ho'] at hj
            cases hj
            obtain ⟨e, he, hbi, rfl⟩ := depOn_spec hk
            have hk2 := hdep e (by simpa using he) hbi
            have ht : L[e.on]? = some true := by
              cases hx : L[e.on]? with
              | none => simp [hx] at hk2
              | some b => simp [hx] at hk2; rw [hk2]
            by_cases hie : i = e.on
            · rw [← hie] at ht; rw [hLi] at ht; cases ht
            · rw [List.getElem?_set_ne hie]; exact ht
          · rw [List.getElem?_set_ne hji] at hjt
            have ht := hcl j o' hj hjt k hk
            by_cases hik : i = k
            · rw [← hik] at ht; rw [hLi] at ht; cases ht
            · rw [List.getElem?_set_ne hik]; exact ht
        by_cases hji : j = i
        · subst hji
          simp only [upd, if_true]
          exact hFi
        · simp only [upd, if_neg hji]
          rw [List.getElem?_set_ne (by omega)] at hj
          exact hst j hji hj (hF j hj)
      unfold wpOp
      simp only [ho]
      by_cases hw : Region.wanted o (yielded l.toArray (fr u).tmps) = true
      · simp only [hw, if_true]
        refine .inl (g1 hw Q _ (fun a' w' ha hC' hFi hst => ?_))
        rw [ha]
        exact next _ _ hC' hFi hst
      · have hw' : Region.wanted o (yielded l.toArray (fr u).tmps) = false := by simpa using hw
        obtain ⟨hC', hFi, hst⟩ := g2 hw'
        simp only [hw', Bool.false_eq_true, if_false]
        exact next _ _ hC' hFi hst
/-- A region that draws its order: C L holds of the world, F L i of what operation i has left, where L tells which have come up. -/
theorem wp_region_rel2I {id : Nat} {Q : Exit → Act → World → Prop} {a0 : Act} {w : World} (C : List Bool → World → Prop) (F : List Bool → Nat → World → Value → Prop)
    (hm : P.follows .mixedOrders = true) (hfr : ∀ u, frU u l 0 a0 = fr u) (hd : (dstsApart l && depsBefore l 0) = true)
    (h0 : C (List.replicate l.length false) { w with drawn := w.drawn + 1 }) (hs : StepsOk2I P l C F fr (fun i => slotOf ((l[i]?).bind (·.dst)) a0) l 0)
    (hend : ∀ L u w', (∀ i : Nat, i < l.length → L[i]? = some true) → C L w' → (∀ i, i < l.length → F L i w' (u i)) → Q .normal (fr u) w') : (Code.region id l.toArray true).wp P Q a0 w := by
  rw [Bool.and_eq_true] at hd
  refine wp_region_any hm ?_
  have hself : fr (fun i => slotOf ((l[i]?).bind (·.dst)) a0) = a0 := by
    rw [← hfr]
    refine frU_self l 0 a0 (fun k o hk => ?_)
    simp [hk]
  have := wpAny_rel2I (Q := Q) (P := P) hfr hd.1 hd.2 hs hend l.length (List.replicate l.length false) (fun i => slotOf ((l[i]?).bind (·.dst)) a0) _ (by simp) (by simp) h0 (fun i hi => by simp [List.getElem?_replicate] at hi) (fun j o' _ hj => by simp [List.getElem?_replicate] at hj) (fun _ _ => rfl)
  rw [hself] at this
  simpa using this
end
section
variable (P : Program) (l : List Oper) (n : Nat) (W : World) (Fs : List (World → Value → Prop)) (Gp : Nat → World → Value → Prop) (fr : (Nat → Value) → Act) (u0 : Nat → Value)
/-- What is to be shown of operation i: before the one that turns the world (n), of it, behind it. -/
def StepT (i : Nat) (o : Oper) : Prop := o.guard = none ∧
  (i < n → (∀ (u : Nat → Value) (w : World), Below W.heap.size W w → (∀ j, depOn o j = true → bof Fs j w (u j)) → (∀ (j : Nat) o', l[j]? = some o' → depOn o' i = true → u j = u0 j) →
    ∀ (Q : Exit → Act → World → Prop) (K : Act → World → Prop), (∀ a' w', a' = (fr u).put o.dst (slotOf o.dst a') → Below w.heap.size w w' → bof Fs i w' (slotOf o.dst a') → K a' w') → o.wp P (fr u) w K Q) ∧
    (reachB l (n + 1) n i = true ∨ ∀ (u : Nat → Value) (w : World), (∀ j, depOn o j = true → Gp j w (u j)) → ∀ (Q : Exit → Act → World → Prop) (K : Act → World → Prop), (∀ a', a' = (fr u).put o.dst (slotOf o.dst a') → Gp i w (slotOf o.dst a') → K a' w) → o.wp P (fr u) w K Q)) ∧
  (i = n → (∀ j, depOn o j = true → j < n) ∧ ∀ (u : Nat → Value) (w : World), Below W.heap.size W w → (∀ j, depOn o j = true → bof Fs j w (u j)) →
    ∀ (Q : Exit → Act → World → Prop) (K : Act → World → Prop), (∀ a' w', a' = (fr u).put o.dst (slotOf o.dst a') → (∀ j, j < n → bof Fs j w (u j) → Gp j w' (u j)) → Gp n w' (slotOf o.dst a') → K a' w') → o.wp P (fr u) w K Q) ∧
  (n < i → depOn o n = true ∧ ∀ (u : Nat → Value) (w : World), (∀ j, depOn o j = true → Gp j w (u j)) →
    ∀ (Q : Exit → Act → World → Prop) (K : Act → World → Prop), (∀ a', a' = (fr u).put o.dst (slotOf o.dst a') → Gp i w (slotOf o.dst a') → K a' w) → o.wp P (fr u) w K Q)
def StepsT : List Oper → Nat → Prop
  | [], _ => True
  | o :: r, i => StepT P l n W Fs Gp fr u0 i o ∧ StepsT r (i + 1)
end
section
variable {P : Program} {l : List Oper} {n : Nat} {W : World} {Fs : List (World → Value → Prop)} {Gp : Nat → World → Value → Prop} {fr : (Nat → Value) → Act} {u0 : Nat → Value}
def CT (n N : Nat) (W : World) (L : List Bool) (w : World) : Prop := L.length = N ∧ (L[n]? = some false → Below W.heap.size W w)
def FT (n : Nat) (Fs : List (World → Value → Prop)) (Gp : Nat → World → Value → Prop) (L : List Bool) (i : Nat) (w : World) (v : Value) : Prop :=
  (i < n → L[n]? = some false → bof Fs i w v) ∧ (L[n]? = some true → Gp i w v)
theorem stepsT_at : ∀ (r : List Oper) (m k : Nat) (p : Oper), r[k]? = some p → StepsT P l n W Fs Gp fr u0 r m → StepT P l n W Fs Gp fr u0 (m + k) p
  | [], _, _, _, h, _ => by simp at h
  | q :: r, m, 0, p, h, hs => by
    simp at h
    subst h
    exact hs.1
  | q :: r, m, k + 1, p, h, hs => by
    have := stepsT_at r (m + 1) k p (by simpa using h) hs.2
    rwa [show m + 1 + k = m + (k + 1) by omega] at this
theorem stepsT_ok (hn : n < l.length) (hst : ∀ i w w' v, Below w.heap.size w w' → bof Fs i w v → bof Fs i w' v) (hdb : ∀ (i : Nat) o, l[i]? = some o → ∀ j, depOn o j = true → j < i) (hsA : StepsT P l n W Fs Gp fr u0 l 0) :
    ∀ (r : List Oper) (i : Nat), (∀ k, l[i + k]? = r[k]?) → StepsT P l n W Fs Gp fr u0 r i → StepsOk2I P l (CT n l.length W) (FT n Fs Gp) fr u0 r i
  | [], _, _, _ => trivial
  | o :: r, i, hl, h => by
    have hio : l[i]? = some o := hl 0
    refine ⟨fun L u w h1 h2 h3 h4 h5 => ⟨fun _ Q K hK => ?_, fun hw => by simp [Region.wanted, h.1.1] at hw⟩, stepsT_ok hn hst hdb hsA r (i + 1) (fun k => by have := hl (k + 1); rw [List.getElem?_cons_succ] at this; rw [← this]; congr 1; omega) h.2⟩
    have hset : ∀ k, k ≠ i → (L.set i true)[k]? = L[k]? := fun k hk => List.getElem?_set_ne (fun e => hk e.symm)
    have hLn : L[n]? = some true ∨ L[n]? = some false := by
      have : n < L.length := by rw [h2.1]; exact hn
      rw [List.getElem?_eq_getElem this]
      cases L[n] <;> simp
    have hno : L[n]? = some false → ∀ j, n ≤ j → L[j]? = some true → False := fun hf j hle hLj => by
      rcases Nat.lt_or_eq_of_le hle with hlt | he
      · have hj2 : j < l.length := by
          have := (List.getElem?_eq_some_iff.1 hLj).1
          rw [h2.1] at this; exact this
        obtain ⟨p, hp⟩ : ∃ p, l[j]? = some p := ⟨_, List.getElem?_eq_getElem hj2⟩
        have hsp := stepsT_at l 0 j p hp hsA
        rw [Nat.zero_add] at hsp
        have := h4 j p hp hLj n (hsp.2.2.2 hlt).1
        rw [hf] at this; cases this
      · subst he
        rw [hf] at hLj; cases hLj
    rcases Nat.lt_trichotomy i n with hin | hin | hin
    · rcases hLn with ht | hf
      · rcases (h.1.2.1 hin).2 with hr | hstep
        · have := reach_done h4 _ _ _ hr ht
          rw [h1] at this; cases this
        · have hnt : (L.set i true)[n]? = some true := by rw [hset n (by omega)]; exact ht
          refine hstep u w (fun j hj => (h3 j hj).2.2 ht) Q K (fun a' ha hG => ?_)
          exact hK a' w ha ⟨by rw [List.length_set]; exact h2.1, (fun hf => by rw [hnt] at hf; cases hf)⟩ ⟨fun _ hf => (by rw [hnt] at hf; cases hf), fun _ => hG⟩ (fun j hj hLj hx => ⟨fun _ hf => (by rw [hnt] at hf; cases hf), fun _ => hx.2 ht⟩)
      have hB := h2.2 hf
      have hnf : (L.set i true)[n]? = some false := by rw [hset n (by omega)]; exact hf
      refine (h.1.2.1 hin).1 u w hB (fun j hj => (h3 j hj).2.1 (Nat.lt_trans (hdb i o hio j hj) hin) hf) h5 Q K (fun a' w' ha hb hF => ?_)
      exact hK a' w' ha ⟨by rw [List.length_set]; exact h2.1, fun _ => hB.trans (hb.mono hB.size)⟩ ⟨fun _ _ => hF, fun ht => by rw [hnf] at ht; cases ht⟩ (fun j hj hLj hx => ⟨fun hjn _ => hst j _ _ _ hb (hx.1 hjn hf), fun ht => by rw [hnf] at ht; cases ht⟩)
    · subst hin
      have hB := h2.2 h1
      obtain ⟨hd, hstep⟩ := h.1.2.2.1 rfl
      refine hstep u w hB (fun j hj => (h3 j hj).2.1 (hd j hj) h1) Q K (fun a' w' ha hGs hG => ?_)
      have hnt : (L.set i true)[i]? = some true := List.getElem?_set_self (List.getElem?_eq_some_iff.1 h1).1
      refine hK a' w' ha ⟨by rw [List.length_set]; exact h2.1, (fun hf => by rw [hnt] at hf; cases hf)⟩ ⟨fun hlt => absurd hlt (by omega), fun _ => hG⟩ (fun j hj hLj hx => ⟨fun _ hf => (by rw [hnt] at hf; cases hf), fun _ => ?_⟩)
      by_cases hji : j < i
      · exact hGs j hji (hx.1 hji h1)
      · exact (hno h1 j (by omega) hLj).elim
    · obtain ⟨hd, hstep⟩ := h.1.2.2.2 hin
      have ht := (h3 n hd).1
      refine hstep u w (fun j hj => (h3 j hj).2.2 ht) Q K (fun a' ha hG => ?_)
      have hnt : (L.set i true)[n]? = some true := by rw [hset n (by omega)]; exact ht
      exact hK a' w ha ⟨by rw [List.length_set]; exact h2.1, (fun hf => by rw [hnt] at hf; cases hf)⟩ ⟨fun hlt => absurd hlt (by omega), fun _ => hG⟩ (fun j hj hLj hx => ⟨fun _ hf => (by rw [hnt] at hf; cases hf), fun _ => hx.2 ht⟩)
theorem depsBefore_at : ∀ (l : List Oper) (k : Nat), depsBefore l k = true → ∀ (i : Nat) o, l[i]? = some o → ∀ j, depOn o j = true → j < k + i
  | [], _, _, _, _, h, _, _ => by simp at h
  | o :: l, k, h, 0, p, hp, j, hj => by
    simp only [depsBefore, Bool.and_eq_true, List.all_eq_true] at h
    simp at hp
    subst hp
    obtain ⟨e, he, h1, h2⟩ := depOn_spec hj
    have := h.1 e (by simpa using he)
    rw [h1] at this
    simp at this
    omega
  | o :: l, k, h, i + 1, p, hp, j, hj => by
    simp only [depsBefore, Bool.and_eq_true] at h
    have := depsBefore_at l (k + 1) h.2 i p (by simpa using hp) j hj
    omega
/-- A region that draws its order and turns the world by its operation n alone, which waits for all before it. -/
theorem wp_region_turn2 {id : Nat} {Q : Exit → Act → World → Prop} {a0 : Act} (n : Nat) (Fs : List (World → Value → Prop)) (Gp : Nat → World → Value → Prop)
    (hm : P.follows .mixedOrders = true) (hn : n < l.length) (hfr : ∀ u, frU u l 0 a0 = fr u) (hd : (dstsApart l && depsBefore l 0) = true)
    (hst : BAll Fs) (hs : StepsT P l n W Fs Gp fr (fun i => slotOf ((l[i]?).bind (·.dst)) a0) l 0)
    (hend : ∀ u w', (∀ i, i < l.length → Gp i w' (u i)) → Q .normal (fr u) w') : (Code.region id l.toArray true).wp P Q a0 W := by
  have hdb := hd
  rw [Bool.and_eq_true] at hdb
  refine wp_region_rel2I (CT n l.length W) (FT n Fs Gp) hm hfr hd ⟨by simp, fun _ => ⟨rfl, rfl, rfl, Nat.le_refl _, fun _ _ => rfl⟩⟩ (stepsT_ok hn (fun i w w' v hb h => bof_stb Fs hst i w w' v hb h) (fun i o hio j hj => by have := depsBefore_at l 0 hdb.2 i o hio j hj; omega) hs l 0 (fun k => by rw [Nat.zero_add]) hs) (fun L u w' hL _ hF => hend u w' (fun i h2 => (hF i h2).2 (hL n hn)))
/-- The same, where what is behind tells nothing of the values before. -/
theorem wp_region_turn {id : Nat} {Q : Exit → Act → World → Prop} {a0 : Act} (n : Nat) (Fs : List (World → Value → Prop)) (G : World → Value → Prop)
    (hm : P.follows .mixedOrders = true) (hn : n < l.length) (hfr : ∀ u, frU u l 0 a0 = fr u) (hd : (dstsApart l && depsBefore l 0) = true)
    (hst : BAll Fs) (hs : StepsT P l n W Fs (fun j w v => n ≤ j → G w v) fr (fun i => slotOf ((l[i]?).bind (·.dst)) a0) l 0)
    (hend : ∀ u w', (∀ i, n ≤ i → i < l.length → G w' (u i)) → Q .normal (fr u) w') : (Code.region id l.toArray true).wp P Q a0 W :=
  wp_region_turn2 n Fs (fun j w v => n ≤ j → G w v) hm hn hfr hd hst hs (fun u w' h => hend u w' (fun i h1 h2 => h i h2 h1))
end
section
variable {P : Program} {l : List Oper} {n : Nat} {W : World} {Fs : List (World → Value → Prop)} {G : World → Value → Prop} {Gp : Nat → World → Value → Prop} {fr : (Nat → Value) → Act} {u0 : Nat → Value} {i : Nat} {o : Oper}
/-- A step before. -/
theorem stT (hg : o.guard = none) (hin : i < n) (hr : reachB l (n + 1) n i = true)
    (h : ∀ (u : Nat → Value) (w : World), Below W.heap.size W w → (∀ j, depOn o j = true → bof Fs j w (u j)) → (∀ (j : Nat) o', l[j]? = some o' → depOn o' i = true → u j = u0 j) →
      ∀ (Q : Exit → Act → World → Prop) (K : Act → World → Prop), (∀ a' w', a' = (fr u).put o.dst (slotOf o.dst a') → Below w.heap.size w w' → bof Fs i w' (slotOf o.dst a') → K a' w') → o.wp P (fr u) w K Q) :
    StepT P l n W Fs Gp fr u0 i o := ⟨hg, fun _ => ⟨h, .inl hr⟩, fun e => absurd e (by omega), fun e => absurd e (by omega)⟩
/-- A step that may come up before or behind. -/
theorem stTf (hg : o.guard = none) (hin : i < n)
    (h : ∀ (u : Nat → Value) (w : World), Below W.heap.size W w → (∀ j, depOn o j = true → bof Fs j w (u j)) →
      ∀ (Q : Exit → Act → World → Prop) (K : Act → World → Prop), (∀ a' w', a' = (fr u).put o.dst (slotOf o.dst a') → Below w.heap.size w w' → bof Fs i w' (slotOf o.dst a') → K a' w') → o.wp P (fr u) w K Q)
    (h2 : ∀ (u : Nat → Value) (w : World), (∀ j, depOn o j = true → Gp j w (u j)) → ∀ (Q : Exit → Act → World → Prop) (K : Act → World → Prop), (∀ a', a' = (fr u).put o.dst (slotOf o.dst a') → Gp i w (slotOf o.dst a') → K a' w) → o.wp P (fr u) w K Q) :
    StepT P l n W Fs Gp fr u0 i o := ⟨hg, fun _ => ⟨fun u w hB hF _ => h u w hB hF, .inr h2⟩, fun e => absurd e (by omega), fun e => absurd e (by omega)⟩
theorem depsBelow (hd : (o.after.toList.all fun e => decide (e.on < n)) = true) : ∀ j, depOn o j = true → j < n := fun j hj => by
  obtain ⟨e, he, h1, h2⟩ := depOn_spec hj
  have := (List.all_eq_true.1 hd) e (by simpa using he)
  rw [h2] at this
  exact of_decide_eq_true this
/-- The one that turns the world. -/
theorem stTt (hg : o.guard = none) (hd : (o.after.toList.all fun e => decide (e.on < n)) = true)
    (h : ∀ (u : Nat → Value) (w : World), Below W.heap.size W w → (∀ j, depOn o j = true → bof Fs j w (u j)) →
      ∀ (Q : Exit → Act → World → Prop) (K : Act → World → Prop), (∀ a' w', a' = (fr u).put o.dst (slotOf o.dst a') → (∀ j, j < n → bof Fs j w (u j) → Gp j w' (u j)) → Gp n w' (slotOf o.dst a') → K a' w') → o.wp P (fr u) w K Q) :
    StepT P l n W Fs Gp fr u0 n o := ⟨hg, fun e => absurd e (by omega), fun _ => ⟨depsBelow hd, h⟩, fun e => absurd e (by omega)⟩
/-- A step behind. -/
theorem stTb (hg : o.guard = none) (hin : n < i) (hd : depOn o n = true)
    (h : ∀ (u : Nat → Value) (w : World), (∀ j, depOn o j = true → Gp j w (u j)) → ∀ (Q : Exit → Act → World → Prop) (K : Act → World → Prop), (∀ a', a' = (fr u).put o.dst (slotOf o.dst a') → Gp i w (slotOf o.dst a') → K a' w) → o.wp P (fr u) w K Q) :
    StepT P l n W Fs Gp fr u0 i o := ⟨hg, fun e => absurd e (by omega), fun e => absurd e (by omega), fun _ => ⟨hd, h⟩⟩
/-- The append. -/
theorem stTa (hg : o.guard = none) (hd : (o.after.toList.all fun e => decide (e.on < n)) = true)
    (h : ∀ (u : Nat → Value) (w : World), Below W.heap.size W w → (∀ j, depOn o j = true → bof Fs j w (u j)) →
      ∀ (Q : Exit → Act → World → Prop) (K : Act → World → Prop), (∀ a' w', a' = (fr u).put o.dst (slotOf o.dst a') → G w' (slotOf o.dst a') → K a' w') → o.wp P (fr u) w K Q) :
    StepT P l n W Fs (fun j w v => n ≤ j → G w v) fr u0 n o := stTt hg hd (fun u w hB hF Q K hK => h u w hB hF Q K (fun a' w' ha hG => hK a' w' ha (fun j hj _ hn => absurd hn (by omega)) (fun _ => hG)))
/-- The assignment behind it. -/
theorem stTe (hg : o.guard = none) (hin : n < i) (hd : depOn o n = true)
    (h : ∀ (u : Nat → Value) (w : World), G w (u n) → ∀ (Q : Exit → Act → World → Prop) (K : Act → World → Prop), (∀ a', a' = (fr u).put o.dst (slotOf o.dst a') → G w (slotOf o.dst a') → K a' w) → o.wp P (fr u) w K Q) :
    StepT P l n W Fs (fun j w v => n ≤ j → G w v) fr u0 i o := stTb hg hin hd (fun u w hF Q K hK => h u w (hF n hd (Nat.le_refl _)) Q K (fun a' ha hG => hK a' ha (fun _ => hG)))
end
section
variable (P : Program) (l : List Oper) (C : List Bool → World → Prop) (F : List Bool → Nat → World → Value → Prop) (fr : (Nat → Value) → Act) (u0 : Nat → Value)
/-- What is to be shown of operation number i, where L tells which have come up. -/
def StepOk2J (i : Nat) (o : Oper) : Prop :=
  ∀ (L : List Bool) (u : Nat → Value) (w : World), L[i]? = some false → C L w → (∀ j, depOn o j = true → L[j]? = some true ∧ F L j w (u j)) → (∀ (j : Nat) o', l[j]? = some o' → L[j]? = some true → ∀ k, depOn o' k = true → L[k]? = some true) → (∀ j : Nat, L[j]? ≠ some true → u j = u0 j) →
    (Region.wanted o (yielded l.toArray (fr u).tmps) = true → ∀ (Q : Exit → Act → World → Prop) (K : Act → World → Prop),
      (∀ a' w', a' = (fr u).put o.dst (slotOf o.dst a') → C (L.set i true) w' → F (L.set i true) i w' (slotOf o.dst a') → (∀ j, j ≠ i → L[j]? = some true → F L j w (u j) → F (L.set i true) j w' (u j)) → K a' w') → o.wp P (fr u) w K Q) ∧
    (Region.wanted o (yielded l.toArray (fr u).tmps) = false → C (L.set i true) w ∧ F (L.set i true) i w undef ∧ (∀ j, j ≠ i → L[j]? = some true → F L j w (u j) → F (L.set i true) j w (u j)))
def StepsOk2J : List Oper → Nat → Prop
  | [], _ => True
  | o :: r, i => StepOk2J P l C F fr u0 i o ∧ StepsOk2J r (i + 1)
end
section
variable {P : Program} {l : List Oper} {C : List Bool → World → Prop} {F : List Bool → Nat → World → Value → Prop} {fr : (Nat → Value) → Act} {u0 : Nat → Value}
end
end Go.Proofs.YtfcbbahlhjdefaaGreatDoor
