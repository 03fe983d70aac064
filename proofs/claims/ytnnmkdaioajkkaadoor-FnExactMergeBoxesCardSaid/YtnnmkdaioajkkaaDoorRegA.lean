/- Regions that draw their order: general laws. -/
import Derived.Test.YtnnmkdaioajkkaaDoorBase
namespace Go.Proofs.YtnnmkdaioajkkaaDoor
open Go.RowKit
/-- What stands in the place that an operation writes. -/
def slotOf (d : Option Tmp) (a : Act) : Value := match d with
  | some d => a.tmps.getD d undef
  | none => undef
/-- The frame a, with u's values in the places that the operations write. -/
def frU (u : Nat → Value) : List Oper → Nat → Act → Act
  | [], _, a => a
  | o :: l, i, a => frU u l (i + 1) (a.put o.dst (u i))
def dstsApart : List Oper → Bool
  | [] => true
  | o :: l => (match o.dst with
    | some d => l.all fun p => p.dst != some d
    | none => true) && dstsApart l
def depsBefore : List Oper → Nat → Bool
  | [], _ => true
  | o :: l, i => (o.after.toList.all fun e => !Region.binds .any e || decide (e.on < i)) && depsBefore l (i + 1)
def upd (u : Nat → Value) (n : Nat) (v : Value) : Nat → Value := fun j => if j = n then v else u j
theorem put_again (a : Act) (d : Option Tmp) (v u : Value) : (a.put d v).put d u = a.put d u := by
  cases d with
  | none => rfl
  | some d => simp [Act.put]
theorem put_self (a : Act) (d : Option Tmp) : a.put d (slotOf d a) = a := by
  cases d with
  | none => rfl
  | some d =>
    obtain ⟨t, df⟩ := a
    simp only [Act.put, slotOf, Act.mk.injEq, and_true]
    by_cases h : d < t.size
    · simp [Array.setIfInBounds, h]
    · simp [Array.setIfInBounds, h]
theorem frU_out {u : Nat → Value} {d : Option Tmp} {v : Value} : ∀ (l : List Oper) (i : Nat) (a : Act), (∀ x, d = some x → (l.all fun p => p.dst != some x) = true) → (frU u l i a).put d v = frU u l i (a.put d v)
  | [], _, _, _ => rfl
  | o :: l, i, a, h => by
    simp only [frU]
    rw [frU_out l (i + 1) _ (fun x hx => by have := h x hx; simp only [List.all_cons, Bool.and_eq_true] at this; exact this.2)]
    rw [Act.put_comm a (u i) v (fun x hx hd => by have := h x hd; simp [hx] at this)]
theorem frU_congr {u u' : Nat → Value} : ∀ (l : List Oper) (i : Nat) (a : Act), (∀ j, i ≤ j → u j = u' j) → frU u l i a = frU u' l i a
  | [], _, _, _ => rfl
  | o :: l, i, a, h => by
    simp only [frU]
    rw [h i (Nat.le_refl _)]
    exact frU_congr l (i + 1) _ (fun j hj => h j (by omega))
theorem frU_put {u : Nat → Value} {v : Value} : ∀ (l : List Oper) (i k : Nat) (a : Act) (o : Oper), l[k]? = some o → dstsApart l = true → (frU u l i a).put o.dst v = frU (upd u (i + k) v) l i a
  | [], _, _, _, _, h, _ => by simp at h
  | p :: l, i, 0, a, o, h, hd => by
    simp at h
    subst h
    simp only [dstsApart, Bool.and_eq_true] at hd
    simp only [frU, Nat.add_zero]
    rw [frU_out l (i + 1) _ (fun x hx => by have := hd.1; rw [hx] at this; exact this), put_again]
    rw [show upd u i v i = v from by simp [upd]]
    exact frU_congr l (i + 1) _ (fun j hj => by simp only [upd]; rw [if_neg (by omega)])
  | p :: l, i, k + 1, a, o, h, hd => by
    simp only [dstsApart, Bool.and_eq_true] at hd
    simp only [frU]
    rw [frU_put l (i + 1) k _ o (by simpa using h) hd.2, show i + 1 + k = i + (k + 1) from by omega]
    rw [show upd u (i + (k + 1)) v i = u i from by simp only [upd]; rw [if_neg (by omega)]]
theorem frU_self {u : Nat → Value} : ∀ (l : List Oper) (i : Nat) (a : Act), (∀ k o, l[k]? = some o → u (i + k) = slotOf o.dst a) → frU u l i a = a
  | [], _, _, _ => rfl
  | o :: l, i, a, h => by
    simp only [frU]
    rw [show u i = slotOf o.dst a from h 0 o rfl, put_self]
    exact frU_self l (i + 1) a (fun k p hk => by have := h (k + 1) p (by simpa using hk); rwa [show i + (k + 1) = i + 1 + k from by omega] at this)
theorem depsBefore_spec : ∀ (l : List Oper) (i k : Nat) (o : Oper), l[k]? = some o → depsBefore l i = true → ∀ e ∈ o.after, Region.binds .any e = true → e.on < i + k
  | [], _, _, _, h, _ => by simp at h
  | p :: l, i, 0, o, h, hd => by
    simp at h
    subst h
    simp only [depsBefore, Bool.and_eq_true, List.all_eq_true] at hd
    intro e he hb
    have := hd.1 e (by simpa using he)
    simpa [hb] using this
  | p :: l, i, k + 1, o, h, hd => by
    simp only [depsBefore, Bool.and_eq_true] at hd
    intro e he hb
    have := depsBefore_spec l (i + 1) k o (by simpa using h) hd.2 e he hb
    omega

/-- Operation o waits for operation j. -/
def depOn (o : Oper) (j : Nat) : Bool := o.after.toList.any fun e => e.on == j && Region.binds .any e
theorem depOn_spec {o : Oper} {j : Nat} (h : depOn o j = true) : ∃ e ∈ o.after, Region.binds .any e = true ∧ e.on = j := by
  simp only [depOn, List.any_eq_true, Bool.and_eq_true, beq_iff_eq] at h
  obtain ⟨e, he, h1, h2⟩ := h
  exact ⟨e, by simpa using he, h2, h1⟩
section
variable (P : Program) (l : List Oper) (N : Nat) (C : Nat → World → Prop) (Ev : World → World → Prop) (F : Nat → World → Value → Prop) (fr : (Nat → Value) → Act)
/-- What is to be shown of operation number i: in whatever world it comes up, behind those for which it waits. -/
def StepOk (i : Nat) (o : Oper) : Prop :=
  ∀ (m : Nat) (u : Nat → Value) (w : World), m < N → C m w → (∀ j, depOn o j = true → F j w (u j)) →
    (Region.wanted o (yielded l.toArray (fr u).tmps) = true → ∀ (Q : Exit → Act → World → Prop) (K : Act → World → Prop),
      (∀ a' w', a' = (fr u).put o.dst (slotOf o.dst a') → C (m + 1) w' → Ev w w' → F i w' (slotOf o.dst a') → K a' w') → o.wp P (fr u) w K Q) ∧
    (Region.wanted o (yielded l.toArray (fr u).tmps) = false → C (m + 1) w ∧ Ev w w ∧ F i w undef)
def StepsOk : List Oper → Nat → Prop
  | [], _ => True
  | o :: r, i => StepOk P l N C Ev F fr i o ∧ StepsOk r (i + 1)
end
section
variable {P : Program} {l : List Oper} {N : Nat} {C : Nat → World → Prop} {Ev : World → World → Prop} {F : Nat → World → Value → Prop} {fr : (Nat → Value) → Act}
theorem stepsOk_at : ∀ (r : List Oper) (i k : Nat) (o : Oper), r[k]? = some o → StepsOk P l N C Ev F fr r i → StepOk P l N C Ev F fr (i + k) o
  | [], _, _, _, h, _ => by simp at h
  | p :: r, i, 0, o, h, hs => by
    simp at h
    subst h
    exact hs.1
  | p :: r, i, k + 1, o, h, hs => by
    have := stepsOk_at r (i + 1) k o (by simpa using h) hs.2
    rwa [show i + 1 + k = i + (k + 1) from by omega] at this
theorem step_plain {i : Nat} {o : Oper} (hg : o.guard = none)
    (h : ∀ (m : Nat) (u : Nat → Value) (w : World), m < N → C m w → (∀ j, depOn o j = true → F j w (u j)) →
      ∀ (Q : Exit → Act → World → Prop) (K : Act → World → Prop), (∀ a' w', a' = (fr u).put o.dst (slotOf o.dst a') → C (m + 1) w' → Ev w w' → F i w' (slotOf o.dst a') → K a' w') → o.wp P (fr u) w K Q) :
    StepOk P l N C Ev F fr i o := fun m u w hm hC hd => ⟨fun _ => h m u w hm hC hd, fun hw => by simp [Region.wanted, hg] at hw⟩
theorem count_false_set {L : List Bool} {i : Nat} (h : L[i]? = some false) : (L.set i true).count false + 1 = L.count false := by
  induction L generalizing i with
  | nil => simp at h
  | cons b L ih =>
    cases i with
    | zero => simp at h; subst h; simp
    | succ i =>
      have := ih (i := i) (by simpa using h)
      simp only [List.set_cons_succ, List.count_cons]
      omega
theorem first_false (L : List Bool) : (∀ i : Nat, i < L.length → L[i]? = some true) ∨ ∃ i : Nat, L[i]? = some false ∧ ∀ j, j < i → L[j]? = some true := by
  induction L with
  | nil => exact .inl (fun i h => by simp at h)
  | cons b L ih =>
    cases b with
    | false => exact .inr ⟨0, rfl, fun j h => by omega⟩
    | true =>
      rcases ih with ih | ⟨i, h1, h2⟩
      · refine .inl (fun i h => ?_)
        cases i with
        | zero => rfl
        | succ i => simpa using ih i (by simpa using h)
      · refine .inr ⟨i + 1, by simpa using h1, fun j hj => ?_⟩
        cases j with
        | zero => rfl
        | succ j => simpa using h2 j (by omega)
theorem wpAny_rel {Q : Exit → Act → World → Prop} {a0 : Act} (hN : l.length = N) (hfr : ∀ u, frU u l 0 a0 = fr u) (hd : dstsApart l = true) (hb : depsBefore l 0 = true)
    (hst : ∀ i w w' v, Ev w w' → F i w v → F i w' v) (hs : StepsOk P l N C Ev F fr l 0)
    (hend : ∀ u w', C l.length w' → (∀ i, i < l.length → F i w' (u i)) → Q .normal (fr u) w') :
    ∀ (fuel : Nat) (L : List Bool) (u : Nat → Value) (m : Nat) (w : World), L.length = l.length → L.count false = fuel → m + fuel = l.length → C m w → (∀ i : Nat, L[i]? = some true → F i w (u i)) →
      wpAny P .any l.toArray Q fuel L.toArray (fr u) w := by
  intro fuel
  induction fuel with
  | zero =>
    intro L u m w hL hc hm hC hF
    have hall : ∀ i : Nat, i < L.length → L[i]? = some true := by
      rcases first_false L with h | ⟨i, h1, _⟩
      · exact h
      · have := List.count_pos_iff.2 (List.mem_of_getElem? h1); omega
    refine ⟨?_, hend u w (by rw [← hm]; exact hC) (fun i hi => hF i (hall i (by omega)))⟩
    refine List.eq_nil_iff_forall_not_mem.2 (fun i hi => ?_)
    obtain ⟨h0, o, ho, _⟩ := mem_ready.1 hi
    have hlt : i < l.length := by simpa using (Array.getElem?_eq_some_iff.1 ho).1
    have := hall i (by omega)
    simp [this] at h0
  | succ fuel ih =>
    intro L u m w hL hc hm hC hF
    refine ⟨fun hr => ?_, fun i hi => ?_⟩
    · exfalso
      rcases first_false L with h | ⟨i, h1, h2⟩
      · have : L.count false = 0 := List.count_eq_zero.2 (fun hmem => by
          obtain ⟨i, hi, he⟩ := List.getElem_of_mem hmem
          have := h i hi
          rw [List.getElem?_eq_getElem hi, he] at this
          simp at this)
        omega
      · have hlt : i < l.length := by rw [← hL]; exact (List.getElem?_eq_some_iff.1 h1).1
        have : i ∈ Region.ready .any l.toArray L.toArray := mem_ready.2 ⟨by simp [h1], l[i], by simp, fun e he hbi => by
          have := depsBefore_spec l 0 i l[i] (List.getElem?_eq_getElem hlt) hb e he hbi
          have := h2 e.on (by omega)
          simp [this]⟩
        rw [hr] at this
        cases this
    · obtain ⟨h0, o, ho, hdep⟩ := mem_ready.1 hi
      have ho' : l[i]? = some o := by simpa using ho
      have hlt : i < l.length := (List.getElem?_eq_some_iff.1 ho').1
      have hLi : L[i]? = some false := by
        have : i < L.length := by omega
        simp [this] at h0
        rw [List.getElem?_eq_getElem this, h0]
      have hstep := stepsOk_at l 0 i o ho' hs
      rw [Nat.zero_add] at hstep
      obtain ⟨g1, g2⟩ := hstep m u w (by omega) hC (fun j hj => hF j (by
        obtain ⟨e, he, hbi, rfl⟩ := depOn_spec hj
        have := hdep e (by simpa using he) hbi
        cases hx : L[e.on]? with
        | none => simp [hx] at this
        | some b => simp [hx] at this; rw [this]))
      have next : ∀ v w', C (m + 1) w' → Ev w w' → F i w' v → wpAny P .any l.toArray Q fuel (L.toArray.setIfInBounds i true) ((fr u).put o.dst v) w' := by
        intro v w' hC' hE hFi
        rw [← hfr u, frU_put l 0 i a0 o ho' hd, Nat.zero_add, hfr, List.setIfInBounds_toArray]
        refine ih (L.set i true) (upd u i v) (m + 1) w' (by simpa using hL) (by have := count_false_set hLi; omega) (by omega) hC' (fun j hj => ?_)
        by_cases hji : j = i
        · subst hji
          simp only [upd, if_true]
          exact hFi
        · simp only [upd, if_neg hji]
          rw [List.getElem?_set_ne (by omega)] at hj
          exact hst j w w' _ hE (hF j hj)
      unfold wpOp
      simp only [ho]
      by_cases hw : Region.wanted o (yielded l.toArray (fr u).tmps) = true
      · simp only [hw, if_true]
        refine .inl (g1 hw Q _ (fun a' w' ha hC' hE hFi => ?_))
        rw [ha]
        exact next _ _ hC' hE hFi
      · have hw' : Region.wanted o (yielded l.toArray (fr u).tmps) = false := by simpa using hw
        obtain ⟨hC', hE, hFi⟩ := g2 hw'
        simp only [hw', Bool.false_eq_true, if_false]
        exact next _ _ hC' hE hFi
/-- A region that draws its order: C m holds of the world behind m operations, F i of what operation i has left, and stands whatever comes up behind it (Ev). -/
theorem wp_region_rel {id : Nat} {Q : Exit → Act → World → Prop} {a0 : Act} {w : World} (C : Nat → World → Prop) (Ev : World → World → Prop) (F : Nat → World → Value → Prop)
    (hm : P.follows .mixedOrders = true) (hN : l.length = N) (hfr : ∀ u, frU u l 0 a0 = fr u) (hd : (dstsApart l && depsBefore l 0) = true)
    (hst : ∀ i w w' v, Ev w w' → F i w v → F i w' v) (h0 : C 0 { w with drawn := w.drawn + 1 }) (hs : StepsOk P l N C Ev F fr l 0)
    (hend : ∀ u w', C N w' → (∀ i, i < N → F i w' (u i)) → Q .normal (fr u) w') : (Code.region id l.toArray true).wp P Q a0 w := by
  rw [Bool.and_eq_true] at hd
  refine wp_region_any hm ?_
  have hself : fr (fun i => slotOf ((l[i]?).bind (·.dst)) a0) = a0 := by
    rw [← hfr]
    refine frU_self l 0 a0 (fun k o hk => ?_)
    simp [hk]
  have := wpAny_rel (Q := Q) (P := P) hN hfr hd.1 hd.2 hst hs (hN ▸ hend) l.length (List.replicate l.length false) (fun i => slotOf ((l[i]?).bind (·.dst)) a0) 0 _ (by simp) (by simp) (by omega) h0 (fun i hi => by simp [List.getElem?_replicate] at hi)
  rw [hself] at this
  simpa using this
end
section
variable (P : Program) (l : List Oper) (C : List Bool → World → Prop) (F : List Bool → Nat → World → Value → Prop) (fr : (Nat → Value) → Act)
/-- What is to be shown of operation number i, where L tells which have come up. -/
def StepOk2 (i : Nat) (o : Oper) : Prop :=
  ∀ (L : List Bool) (u : Nat → Value) (w : World), L[i]? = some false → C L w → (∀ j, depOn o j = true → L[j]? = some true ∧ F L j w (u j)) → (∀ (j : Nat) o', l[j]? = some o' → L[j]? = some true → ∀ k, depOn o' k = true → L[k]? = some true) →
    (Region.wanted o (yielded l.toArray (fr u).tmps) = true → ∀ (Q : Exit → Act → World → Prop) (K : Act → World → Prop),
      (∀ a' w', a' = (fr u).put o.dst (slotOf o.dst a') → C (L.set i true) w' → F (L.set i true) i w' (slotOf o.dst a') → (∀ j, j ≠ i → L[j]? = some true → F L j w (u j) → F (L.set i true) j w' (u j)) → K a' w') → o.wp P (fr u) w K Q) ∧
    (Region.wanted o (yielded l.toArray (fr u).tmps) = false → C (L.set i true) w ∧ F (L.set i true) i w undef ∧ (∀ j, j ≠ i → L[j]? = some true → F L j w (u j) → F (L.set i true) j w (u j)))
def StepsOk2 : List Oper → Nat → Prop
  | [], _ => True
  | o :: r, i => StepOk2 P l C F fr i o ∧ StepsOk2 r (i + 1)
end
section
variable {P : Program} {l : List Oper} {C : List Bool → World → Prop} {F : List Bool → Nat → World → Value → Prop} {fr : (Nat → Value) → Act}
theorem stepsOk2_at : ∀ (r : List Oper) (i k : Nat) (o : Oper), r[k]? = some o → StepsOk2 P l C F fr r i → StepOk2 P l C F fr (i + k) o
  | [], _, _, _, h, _ => by simp at h
  | p :: r, i, 0, o, h, hs => by
    simp at h
    subst h
    exact hs.1
  | p :: r, i, k + 1, o, h, hs => by
    have := stepsOk2_at r (i + 1) k o (by simpa using h) hs.2
    rwa [show i + 1 + k = i + (k + 1) from by omega] at this
theorem wpAny_rel2 {Q : Exit → Act → World → Prop} {a0 : Act} (hfr : ∀ u, frU u l 0 a0 = fr u) (hd : dstsApart l = true) (hb : depsBefore l 0 = true)
    (hs : StepsOk2 P l C F fr l 0)
    (hend : ∀ L u w', (∀ i : Nat, i < l.length → L[i]? = some true) → C L w' → (∀ i, i < l.length → F L i w' (u i)) → Q .normal (fr u) w') :
    ∀ (fuel : Nat) (L : List Bool) (u : Nat → Value) (w : World), L.length = l.length → L.count false = fuel → C L w → (∀ i : Nat, L[i]? = some true → F L i w (u i)) → (∀ (j : Nat) o', l[j]? = some o' → L[j]? = some true → ∀ k, depOn o' k = true → L[k]? = some true) →
      wpAny P .any l.toArray Q fuel L.toArray (fr u) w := by
  intro fuel
  induction fuel with
  | zero =>
    intro L u w hL hc hC hF _
    have hall : ∀ i : Nat, i < L.length → L[i]? = some true := by
      rcases first_false L with h | ⟨i, h1, _⟩
      · exact h
      · have := List.count_pos_iff.2 (List.mem_of_getElem? h1); omega
    refine ⟨?_, hend L u w (fun i hi => hall i (by omega)) hC (fun i hi => hF i (hall i (by omega)))⟩
    refine List.eq_nil_iff_forall_not_mem.2 (fun i hi => ?_)
    obtain ⟨h0, o, ho, _⟩ := mem_ready.1 hi
    have hlt : i < l.length := by simpa using (Array.getElem?_eq_some_iff.1 ho).1
    have := hall i (by omega)
    simp [this] at h0
  | succ fuel ih =>
    intro L u w hL hc hC hF hcl
    refine ⟨fun hr => ?_, fun i hi => ?_⟩
    · exfalso
      rcases first_false L with h | ⟨i, h1, h2⟩
      · have : L.count false = 0 := List.count_eq_zero.2 (fun hmem => by
          obtain ⟨i, hi, he⟩ := List.getElem_of_mem hmem
          have := h i hi
          rw [List.getElem?_eq_getElem hi, he] at this
          simp at this)
        omega
      · have hlt : i < l.length := by rw [← hL]; exact (List.getElem?_eq_some_iff.1 h1).1
        have : i ∈ Region.ready .any l.toArray L.toArray := mem_ready.2 ⟨by simp [h1], l[i], by simp, fun e he hbi => by
          have := depsBefore_spec l 0 i l[i] (List.getElem?_eq_getElem hlt) hb e he hbi
          have := h2 e.on (by omega)
          simp [this]⟩
        rw [hr] at this
        cases this
    · obtain ⟨h0, o, ho, hdep⟩ := mem_ready.1 hi
      have ho' : l[i]? = some o := by simpa using ho
      have hlt : i < l.length := (List.getElem?_eq_some_iff.1 ho').1
      have hLi : L[i]? = some false := by
        have : i < L.length := by omega
        simp [this] at h0
        rw [List.getElem?_eq_getElem this, h0]
      have hstep := stepsOk2_at l 0 i o ho' hs
      rw [Nat.zero_add] at hstep
      obtain ⟨g1, g2⟩ := hstep L u w hLi hC (fun j hj => by
        obtain ⟨e, he, hbi, rfl⟩ := depOn_spec hj
        have := hdep e (by simpa using he) hbi
        have ht : L[e.on]? = some true := by
          cases hx : L[e.on]? with
          | none => simp [hx] at this
          | some b => simp [hx] at this; rw [this]
        exact ⟨ht, hF e.on ht⟩) hcl
      have next : ∀ v w', C (L.set i true) w' → F (L.set i true) i w' v → (∀ j, j ≠ i → L[j]? = some true → F L j w (u j) → F (L.set i true) j w' (u j)) → wpAny P .any l.toArray Q fuel (L.toArray.setIfInBounds i true) ((fr u).put o.dst v) w' := by
        intro v w' hC' hFi hst
        rw [← hfr u, frU_put l 0 i a0 o ho' hd, Nat.zero_add, hfr, List.setIfInBounds_toArray]
        refine ih (L.set i true) (upd u i v) w' (by simpa using hL) (by have := count_false_set hLi; omega) hC' (fun j hj => ?_) (fun j o' hj hjt k hk => ?_)
        case refine_2 =>
          by_cases hji : i = j
          · subst hji
            rw [ho'] at hj
            cases hj
            obtain ⟨e, he, hbi, rfl⟩ := depOn_spec hk
            have hk2 := hdep e (by simpa using he) hbi
            have ht : L[e.on]? = some true := by
              cases hx : L[e.on]? with
              | none => simp [hx] at hk2
              | some b => simp [hx] at hk2; rw [hk2]
            by_cases hie : i = e.on
            · rw [← hie] at ht; rw [hLi] at ht; cases ht
            · rw [List.getElem?_set_ne hie]; exact ht
          · rw [List.getElem?_set_ne hji] at hjt
            have ht := hcl j o' hj hjt k hk
            by_cases hik : i = k
            · rw [← hik] at ht; rw [hLi] at ht; cases ht
            · rw [List.getElem?_set_ne hik]; exact ht
        by_cases hji : j = i
        · subst hji
          simp only [upd, if_true]
          exact hFi
        · simp only [upd, if_neg hji]
          rw [List.getElem?_set_ne (by omega)] at hj
          exact hst j hji hj (hF j hj)
      unfold wpOp
      simp only [ho]
      by_cases hw : Region.wanted o (yielded l.toArray (fr u).tmps) = true
      · simp only [hw, if_true]
        refine .inl (g1 hw Q _ (fun a' w' ha hC' hFi hst => ?_))
        rw [ha]
        exact next _ _ hC' hFi hst
      · have hw' : Region.wanted o (yielded l.toArray (fr u).tmps) = false := by simpa using hw
        obtain ⟨hC', hFi, hst⟩ := g2 hw'
        simp only [hw', Bool.false_eq_true, if_false]
        exact next _ _ hC' hFi hst
/-- A region that draws its order: C L holds of the world, F L i of what operation i has left, where L tells which have come up. -/
theorem wp_region_rel2 {id : Nat} {Q : Exit → Act → World → Prop} {a0 : Act} {w : World} (C : List Bool → World → Prop) (F : List Bool → Nat → World → Value → Prop)
    (hm : P.follows .mixedOrders = true) (hfr : ∀ u, frU u l 0 a0 = fr u) (hd : (dstsApart l && depsBefore l 0) = true)
    (h0 : C (List.replicate l.length false) { w with drawn := w.drawn + 1 }) (hs : StepsOk2 P l C F fr l 0)
    (hend : ∀ L u w', (∀ i : Nat, i < l.length → L[i]? = some true) → C L w' → (∀ i, i < l.length → F L i w' (u i)) → Q .normal (fr u) w') : (Code.region id l.toArray true).wp P Q a0 w := by
  rw [Bool.and_eq_true] at hd
  refine wp_region_any hm ?_
  have hself : fr (fun i => slotOf ((l[i]?).bind (·.dst)) a0) = a0 := by
    rw [← hfr]
    refine frU_self l 0 a0 (fun k o hk => ?_)
    simp [hk]
  have := wpAny_rel2 (Q := Q) (P := P) hfr hd.1 hd.2 hs hend l.length (List.replicate l.length false) (fun i => slotOf ((l[i]?).bind (·.dst)) a0) _ (by simp) (by simp) h0 (fun i hi => by simp [List.getElem?_replicate] at hi) (fun j o' _ hj => by simp [List.getElem?_replicate] at hj)
  rw [hself] at this
  simpa using this
end
abbrev WV3 := List Bool → World → Value → Prop
def HIs (c : Value) : WV3 := fun _ _ v => v = c
/-- Known until operation k has come up. -/
def HTill (k : Nat) (p : World → Value → Prop) : WV3 := fun L w v => L[k]? = some true ∨ p w v
def HW (p : World → Value → Prop) : WV3 := fun _ w v => p w v
def HV (p : Value → Prop) : WV3 := fun _ _ v => p v
def Hof (Fs : List WV3) (L : List Bool) (i : Nat) (w : World) (v : Value) : Prop := match Fs[i]? with
  | some f => f L w v
  | none => True
def BStb (p : World → Value → Prop) : Prop := ∀ w w' v, Below w.heap.size w w' → p w v → p w' v
def HStb (f : WV3) : Prop := ∀ L i w w' v, Below w.heap.size w w' → f L w v → f (L.set i true) w' v
theorem hstb_is (c : Value) : HStb (HIs c) := fun _ _ _ _ _ _ h => h
theorem hstb_v (p : Value → Prop) : HStb (HV p) := fun _ _ _ _ _ _ h => h
theorem hstb_w {p : World → Value → Prop} (hp : BStb p) : HStb (HW p) := fun _ _ w w' v hb h => hp w w' v hb h
theorem setKeeps {L : List Bool} {i k : Nat} (h : L[k]? = some true) : (L.set i true)[k]? = some true := by
  by_cases e : i = k
  · subst e
    rw [List.getElem?_set_self (List.getElem?_eq_some_iff.1 h).1]
  · rw [List.getElem?_set_ne e]; exact h
theorem hstb_till {k : Nat} {p : World → Value → Prop} (hp : BStb p) : HStb (HTill k p) := fun _ _ w w' v hb h => h.elim (fun h => .inl (setKeeps h)) (fun h => .inr (hp w w' v hb h))
def HAll : List WV3 → Prop
  | [] => True
  | f :: Fs => HStb f ∧ HAll Fs
theorem hof_stb : ∀ (Fs : List WV3), HAll Fs → ∀ (L : List Bool) (i j : Nat) (w w' : World) (v : Value), Below w.heap.size w w' → Hof Fs L j w v → Hof Fs (L.set i true) j w' v
  | [], _, _, _, _, _, _, _, _, h => h
  | _ :: _, hs, L, i, 0, w, w', v, hb, h => hs.1 L i w w' v hb h
  | _ :: Fs, hs, L, i, j + 1, w, w', v, hb, h => hof_stb Fs hs.2 L i j w w' v hb h
/-- Operation k comes up and may turn anything: what is known of the others. -/
def HEnd (k : Nat) : List WV3 → Nat → Prop
  | [], _ => True
  | f :: Fs, j => (j ≠ k → ∀ (L : List Bool) w w' v, L[k]? = some false → f L w v → f (L.set k true) w' v) ∧ HEnd k Fs (j + 1)
theorem hof_end {k : Nat} : ∀ (Fs : List WV3) (m : Nat), HEnd k Fs m → ∀ (L : List Bool) (j : Nat) (w w' : World) (v : Value), j + m ≠ k → L[k]? = some false → Hof Fs L j w v → Hof Fs (L.set k true) j w' v
  | [], _, _, _, _, _, _, _, _, _, h => h
  | _ :: _, m, hs, L, 0, w, w', v, hj, hL, h => hs.1 (by omega) L w w' v hL h
  | _ :: Fs, m, hs, L, j + 1, w, w', v, hj, hL, h => hof_end Fs (m + 1) hs.2 L j w w' v (by omega) hL h
theorem hend_is {k : Nat} (c : Value) (j : Nat) : j ≠ k → ∀ (L : List Bool) w w' v, L[k]? = some false → HIs c L w v → HIs c (L.set k true) w' v := fun _ _ _ _ _ _ h => h
theorem hend_v {k : Nat} (p : Value → Prop) (j : Nat) : j ≠ k → ∀ (L : List Bool) w w' v, L[k]? = some false → HV p L w v → HV p (L.set k true) w' v := fun _ _ _ _ _ _ h => h
theorem hend_till {k : Nat} (p : World → Value → Prop) (j : Nat) : j ≠ k → ∀ (L : List Bool) w w' v, L[k]? = some false → HTill k p L w v → HTill k p (L.set k true) w' v :=
  fun _ L _ _ _ hL _ => .inl (by rw [List.getElem?_set_self (List.getElem?_eq_some_iff.1 hL).1])
theorem hend_self {k : Nat} (f : WV3) : k ≠ k → ∀ (L : List Bool) w w' v, L[k]? = some false → f L w v → f (L.set k true) w' v := fun h => absurd rfl h
theorem stepR {P : Program} {l : List Oper} {C : List Bool → World → Prop} {F : List Bool → Nat → World → Value → Prop} {fr : (Nat → Value) → Act} {i : Nat} {o : Oper}
    (h : ∀ (L : List Bool) (u : Nat → Value) (w : World), L[i]? = some false → C L w → (∀ j, depOn o j = true → L[j]? = some true ∧ F L j w (u j)) →
      Region.wanted o (yielded l.toArray (fr u).tmps) = true ∧ ∀ (Q : Exit → Act → World → Prop) (K : Act → World → Prop),
        (∀ a' w', a' = (fr u).put o.dst (slotOf o.dst a') → C (L.set i true) w' → F (L.set i true) i w' (slotOf o.dst a') → (∀ j x, j ≠ i → L[j]? = some true → F L j w x → F (L.set i true) j w' x) → K a' w') → o.wp P (fr u) w K Q) :
    StepOk2 P l C F fr i o := fun L u w h1 h2 h3 _ => ⟨fun _ Q K hK => (h L u w h1 h2 h3).2 Q K (fun a' w' q1 q2 q3 q4 => hK a' w' q1 q2 q3 (fun j z1 z2 z3 => q4 j _ z1 z2 z3)), fun hw => by rw [(h L u w h1 h2 h3).1] at hw; cases hw⟩
/-- The same, where what has come up is closed: an operation has come up behind those for which it waits. -/
theorem stepC {P : Program} {l : List Oper} {C : List Bool → World → Prop} {F : List Bool → Nat → World → Value → Prop} {fr : (Nat → Value) → Act} {i : Nat} {o : Oper}
    (h : ∀ (L : List Bool) (u : Nat → Value) (w : World), L[i]? = some false → C L w → (∀ j, depOn o j = true → L[j]? = some true ∧ F L j w (u j)) → (∀ (j : Nat) o', l[j]? = some o' → L[j]? = some true → ∀ k, depOn o' k = true → L[k]? = some true) →
      Region.wanted o (yielded l.toArray (fr u).tmps) = true ∧ ∀ (Q : Exit → Act → World → Prop) (K : Act → World → Prop),
        (∀ a' w', a' = (fr u).put o.dst (slotOf o.dst a') → C (L.set i true) w' → F (L.set i true) i w' (slotOf o.dst a') → (∀ j x, j ≠ i → L[j]? = some true → F L j w x → F (L.set i true) j w' x) → K a' w') → o.wp P (fr u) w K Q) :
    StepOk2 P l C F fr i o := fun L u w h1 h2 h3 h4 => ⟨fun _ Q K hK => (h L u w h1 h2 h3 h4).2 Q K (fun a' w' q1 q2 q3 q4 => hK a' w' q1 q2 q3 (fun j z1 z2 z3 => q4 j _ z1 z2 z3)), fun hw => by rw [(h L u w h1 h2 h3 h4).1] at hw; cases hw⟩
theorem count_true_set {L : List Bool} {i : Nat} (h : L[i]? = some false) : (L.set i true).count true = L.count true + 1 := by
  induction L generalizing i with
  | nil => simp at h
  | cons b L ih =>
    cases i with
    | zero => simp at h; subst h; simp
    | succ i =>
      have := ih (i := i) (by simpa using h)
      simp only [List.set_cons_succ, List.count_cons]
      omega
theorem count_true_all {L : List Bool} : L.count true ≤ L.length := List.count_le_length
theorem his {c : Value} {L : List Bool} {w : World} {v : Value} (h : HIs c L w v) : v = c := h
theorem htill {k : Nat} {p : World → Value → Prop} {L : List Bool} {w : World} {v : Value} (h : HTill k p L w v) (hL : L[k]? = some false) : p w v := by
  rcases h with h | h
  · rw [hL] at h; cases h
  · exact h
/-- Known, and operation k has come up. -/
def HAnd (k : Nat) (f : WV3) : WV3 := fun L w v => L[k]? = some true ∧ f L w v
theorem hstb_and {k : Nat} {f : WV3} (hf : HStb f) : HStb (HAnd k f) := fun L i w w' v hb h => ⟨setKeeps h.1, hf L i w w' v hb h.2⟩
/-- Operation k comes up at L and may turn anything: what is known of the others. -/
def HEndL (L : List Bool) (k : Nat) : List WV3 → Nat → Prop
  | [], _ => True
  | f :: Fs, j => (j ≠ k → ∀ w w' v, f L w v → f (L.set k true) w' v) ∧ HEndL L k Fs (j + 1)
theorem hof_endL {L : List Bool} {k : Nat} : ∀ (Fs : List WV3) (m : Nat), HEndL L k Fs m → ∀ (j : Nat) (w w' : World) (v : Value), j + m ≠ k → Hof Fs L j w v → Hof Fs (L.set k true) j w' v
  | [], _, _, _, _, _, _, _, h => h
  | _ :: _, m, hs, 0, w, w', v, hj, h => hs.1 (by omega) w w' v h
  | _ :: Fs, m, hs, j + 1, w, w', v, hj, h => hof_endL Fs (m + 1) hs.2 j w w' v (by omega) h
theorem el_is {L : List Bool} {k j : Nat} (c : Value) : j ≠ k → ∀ w w' v, HIs c L w v → HIs c (L.set k true) w' v := fun _ _ _ _ h => h
theorem el_v {L : List Bool} {k j : Nat} (p : Value → Prop) : j ≠ k → ∀ w w' v, HV p L w v → HV p (L.set k true) w' v := fun _ _ _ _ h => h
theorem el_till {L : List Bool} {k j : Nat} (m : Nat) (p : World → Value → Prop) (h : (L.set k true)[m]? = some true) : j ≠ k → ∀ w w' v, HTill m p L w v → HTill m p (L.set k true) w' v := fun _ _ _ _ _ => .inl h
theorem el_and {L : List Bool} {k j : Nat} (m : Nat) {f : WV3} (h : j ≠ k → ∀ w w' v, f L w v → f (L.set k true) w' v) : j ≠ k → ∀ w w' v, HAnd m f L w v → HAnd m f (L.set k true) w' v := fun hj w w' v g => ⟨setKeeps g.1, h hj w w' v g.2⟩
theorem el_late {L : List Bool} {k j : Nat} {f : WV3} (hL : L[k]? = some false) : j ≠ k → ∀ w w' v, HAnd k f L w v → HAnd k f (L.set k true) w' v := fun _ _ _ _ h => by exact absurd (hL.symm.trans h.1) (by simp)
theorem el_self {L : List Bool} {k : Nat} (f : WV3) : k ≠ k → ∀ w w' v, f L w v → f (L.set k true) w' v := fun h => absurd rfl h
theorem set_now {L : List Bool} {k : Nat} (h : L[k]? = some false) : (L.set k true)[k]? = some true := by
  rw [List.getElem?_set_self (List.getElem?_eq_some_iff.1 h).1]
end Go.Proofs.YtnnmkdaioajkkaaDoor
