/- A region that draws its order: by what each of its operations leaves, in whatever order they come up. -/
import Derived.Test.YtkcnbkkgpampaaaDoorBase
namespace Go.Proofs.YtkcnbkkgpampaaaDoor
open Go.RowKit
/-- What stands in the place that an operation writes. -/
def slotOf (d : Option Tmp) (a : Act) : Value := match d with
  | some d => a.tmps.getD d undef
  | none => undef
/-- The frame a, with u's values in the places that the operations write. -/
def frU (u : Nat → Value) : List Oper → Nat → Act → Act
  | [], _, a => a
  | o :: l, i, a => frU u l (i + 1) (a.put o.dst (u i))
def dstsApart : List Oper → Bool
  | [] => true
  | o :: l => (match o.dst with
    | some d => l.all fun p => p.dst != some d
    | none => true) && dstsApart l
def depsBefore : List Oper → Nat → Bool
  | [], _ => true
  | o :: l, i => (o.after.toList.all fun e => !Region.binds .any e || decide (e.on < i)) && depsBefore l (i + 1)
def upd (u : Nat → Value) (n : Nat) (v : Value) : Nat → Value := fun j => if j = n then v else u j
theorem put_again (a : Act) (d : Option Tmp) (v u : Value) : (a.put d v).put d u = a.put d u := by
  cases d with
  | none => rfl
  | some d => simp [Act.put]
theorem put_self (a : Act) (d : Option Tmp) : a.put d (slotOf d a) = a := by
  cases d with
  | none => rfl
  | some d =>
    obtain ⟨t, df⟩ := a
    simp only [Act.put, slotOf, Act.mk.injEq, and_true]
    by_cases h : d < t.size
    · simp [Array.setIfInBounds, h]
    · simp [Array.setIfInBounds, h]
theorem frU_out {u : Nat → Value} {d : Option Tmp} {v : Value} : ∀ (l : List Oper) (i : Nat) (a : Act), (∀ x, d = some x → (l.all fun p => p.dst != some x) = true) → (frU u l i a).put d v = frU u l i (a.put d v)
  | [], _, _, _ => rfl
  | o :: l, i, a, h => by
    simp only [frU]
    rw [frU_out l (i + 1) _ (fun x hx => by have := h x hx; simp only [List.all_cons, Bool.and_eq_true] at this; exact this.2)]
    rw [Act.put_comm a (u i) v (fun x hx hd => by have := h x hd; simp [hx] at this)]
theorem frU_congr {u u' : Nat → Value} : ∀ (l : List Oper) (i : Nat) (a : Act), (∀ j, i ≤ j → u j = u' j) → frU u l i a = frU u' l i a
  | [], _, _, _ => rfl
  | o :: l, i, a, h => by
    simp only [frU]
    rw [h i (Nat.le_refl _)]
    exact frU_congr l (i + 1) _ (fun j hj => h j (by omega))
theorem frU_put {u : Nat → Value} {v : Value} : ∀ (l : List Oper) (i k : Nat) (a : Act) (o : Oper), l[k]? = some o → dstsApart l = true → (frU u l i a).put o.dst v = frU (upd u (i + k) v) l i a
  | [], _, _, _, _, h, _ => by simp at h
  | p :: l, i, 0, a, o, h, hd => by
    simp at h
    subst h
    simp only [dstsApart, Bool.and_eq_true] at hd
    simp only [frU, Nat.add_zero]
    rw [frU_out l (i + 1) _ (fun x hx => by have := hd.1; rw [hx] at this; exact this), put_again]
    rw [show upd u i v i = v from by simp [upd]]
    exact frU_congr l (i + 1) _ (fun j hj => by simp only [upd]; rw [if_neg (by omega)])
  | p :: l, i, k + 1, a, o, h, hd => by
    simp only [dstsApart, Bool.and_eq_true] at hd
    simp only [frU]
    rw [frU_put l (i + 1) k _ o (by simpa using h) hd.2, show i + 1 + k = i + (k + 1) from by omega]
    rw [show upd u (i + (k + 1)) v i = u i from by simp only [upd]; rw [if_neg (by omega)]]
theorem frU_self {u : Nat → Value} : ∀ (l : List Oper) (i : Nat) (a : Act), (∀ k o, l[k]? = some o → u (i + k) = slotOf o.dst a) → frU u l i a = a
  | [], _, _, _ => rfl
  | o :: l, i, a, h => by
    simp only [frU]
    rw [show u i = slotOf o.dst a from h 0 o rfl, put_self]
    exact frU_self l (i + 1) a (fun k p hk => by have := h (k + 1) p (by simpa using hk); rwa [show i + (k + 1) = i + 1 + k from by omega] at this)
theorem depsBefore_spec : ∀ (l : List Oper) (i k : Nat) (o : Oper), l[k]? = some o → depsBefore l i = true → ∀ e ∈ o.after, Region.binds .any e = true → e.on < i + k
  | [], _, _, _, h, _ => by simp at h
  | p :: l, i, 0, o, h, hd => by
    simp at h
    subst h
    simp only [depsBefore, Bool.and_eq_true, List.all_eq_true] at hd
    intro e he hb
    have := hd.1 e (by simpa using he)
    simpa [hb] using this
  | p :: l, i, k + 1, o, h, hd => by
    simp only [depsBefore, Bool.and_eq_true] at hd
    intro e he hb
    have := depsBefore_spec l (i + 1) k o (by simpa using h) hd.2 e he hb
    omega

/-- Operation o waits for operation j. -/
def depOn (o : Oper) (j : Nat) : Bool := o.after.toList.any fun e => e.on == j && Region.binds .any e
theorem depOn_spec {o : Oper} {j : Nat} (h : depOn o j = true) : ∃ e ∈ o.after, Region.binds .any e = true ∧ e.on = j := by
  simp only [depOn, List.any_eq_true, Bool.and_eq_true, beq_iff_eq] at h
  obtain ⟨e, he, h1, h2⟩ := h
  exact ⟨e, by simpa using he, h2, h1⟩
section
variable (P : Program) (l : List Oper) (N : Nat) (C : Nat → World → Prop) (Ev : World → World → Prop) (F : Nat → World → Value → Prop) (fr : (Nat → Value) → Act)
/-- What is to be shown of operation number i: in whatever world it comes up, behind those for which it waits. -/
def StepOk (i : Nat) (o : Oper) : Prop :=
  ∀ (m : Nat) (u : Nat → Value) (w : World), m < N → C m w → (∀ j, depOn o j = true → F j w (u j)) →
    (Region.wanted o (yielded l.toArray (fr u).tmps) = true → ∀ (Q : Exit → Act → World → Prop) (K : Act → World → Prop),
      (∀ a' w', a' = (fr u).put o.dst (slotOf o.dst a') → C (m + 1) w' → Ev w w' → F i w' (slotOf o.dst a') → K a' w') → o.wp P (fr u) w K Q) ∧
    (Region.wanted o (yielded l.toArray (fr u).tmps) = false → C (m + 1) w ∧ Ev w w ∧ F i w undef)
def StepsOk : List Oper → Nat → Prop
  | [], _ => True
  | o :: r, i => StepOk P l N C Ev F fr i o ∧ StepsOk r (i + 1)
end
section
variable {P : Program} {l : List Oper} {N : Nat} {C : Nat → World → Prop} {Ev : World → World → Prop} {F : Nat → World → Value → Prop} {fr : (Nat → Value) → Act}
theorem stepsOk_at : ∀ (r : List Oper) (i k : Nat) (o : Oper), r[k]? = some o → StepsOk P l N C Ev F fr r i → StepOk P l N C Ev F fr (i + k) o
  | [], _, _, _, h, _ => by simp at h
  | p :: r, i, 0, o, h, hs => by
    simp at h
    subst h
    exact hs.1
  | p :: r, i, k + 1, o, h, hs => by
    have := stepsOk_at r (i + 1) k o (by simpa using h) hs.2
    rwa [show i + 1 + k = i + (k + 1) from by omega] at this
theorem step_plain {i : Nat} {o : Oper} (hg : o.guard = none)
    (h : ∀ (m : Nat) (u : Nat → Value) (w : World), m < N → C m w → (∀ j, depOn o j = true → F j w (u j)) →
      ∀ (Q : Exit → Act → World → Prop) (K : Act → World → Prop), (∀ a' w', a' = (fr u).put o.dst (slotOf o.dst a') → C (m + 1) w' → Ev w w' → F i w' (slotOf o.dst a') → K a' w') → o.wp P (fr u) w K Q) :
    StepOk P l N C Ev F fr i o := fun m u w hm hC hd => ⟨fun _ => h m u w hm hC hd, fun hw => by simp [Region.wanted, hg] at hw⟩
theorem count_false_set {L : List Bool} {i : Nat} (h : L[i]? = some false) : (L.set i true).count false + 1 = L.count false := by
  induction L generalizing i with
  | nil => simp at h
  | cons b L ih =>
    cases i with
    | zero => simp at h; subst h; simp
    | succ i =>
      have := ih (i := i) (by simpa using h)
      simp only [List.set_cons_succ, List.count_cons]
      omega
theorem first_false (L : List Bool) : (∀ i : Nat, i < L.length → L[i]? = some true) ∨ ∃ i : Nat, L[i]? = some false ∧ ∀ j, j < i → L[j]? = some true := by
  induction L with
  | nil => exact .inl (fun i h => by simp at h)
  | cons b L ih =>
    cases b with
    | false => exact .inr ⟨0, rfl, fun j h => by omega⟩
    | true =>
      rcases ih with ih | ⟨i, h1, h2⟩
      · refine .inl (fun i h => ?_)
        cases i with
        | zero => rfl
        | succ i => simpa using ih i (by simpa using h)
      · refine .inr ⟨i + 1, by simpa using h1, fun j hj => ?_⟩
        cases j with
        | zero => rfl
        | succ j => simpa using h2 j (by omega)
theorem wpAny_rel {Q : Exit → Act → World → Prop} {a0 : Act} (hN : l.length = N) (hfr : ∀ u, frU u l 0 a0 = fr u) (hd : dstsApart l = true) (hb : depsBefore l 0 = true)
    (hst : ∀ i w w' v, Ev w w' → F i w v → F i w' v) (hs : StepsOk P l N C Ev F fr l 0)
    (hend : ∀ u w', C l.length w' → (∀ i, i < l.length → F i w' (u i)) → Q .normal (fr u) w') :
    ∀ (fuel : Nat) (L : List Bool) (u : Nat → Value) (m : Nat) (w : World), L.length = l.length → L.count false = fuel → m + fuel = l.length → C m w → (∀ i : Nat, L[i]? = some true → F i w (u i)) →
      wpAny P .any l.toArray Q fuel L.toArray (fr u) w := by
  intro fuel
  induction fuel with
  | zero =>
    intro L u m w hL hc hm hC hF
    have hall : ∀ i : Nat, i < L.length → L[i]? = some true := by
      rcases first_false L with h | ⟨i, h1, _⟩
      · exact h
      · have := List.count_pos_iff.2 (List.mem_of_getElem? h1); omega
    refine ⟨?_, hend u w (by rw [← hm]; exact hC) (fun i hi => hF i (hall i (by omega)))⟩
    refine List.eq_nil_iff_forall_not_mem.2 (fun i hi => ?_)
    obtain ⟨h0, o, ho, _⟩ := mem_ready.1 hi
    have hlt : i < l.length := by simpa using (Array.getElem?_eq_some_iff.1 ho).1
    have := hall i (by omega)
    simp [this] at h0
  | succ fuel ih =>
    intro L u m w hL hc hm hC hF
    refine ⟨fun hr => ?_, fun i hi => ?_⟩
    · exfalso
      rcases first_false L with h | ⟨i, h1, h2⟩
      · have : L.count false = 0 := List.count_eq_zero.2 (fun hmem => by
          obtain ⟨i, hi, he⟩ := List.getElem_of_mem hmem
          have := h i hi
          rw [List.getElem?_eq_getElem hi, he] at this
          simp at this)
        omega
      · have hlt : i < l.length := by rw [← hL]; exact (List.getElem?_eq_some_iff.1 h1).1
        have : i ∈ Region.ready .any l.toArray L.toArray := mem_ready.2 ⟨by simp [h1], l[i], by simp, fun e he hbi => by
          have := depsBefore_spec l 0 i l[i] (List.getElem?_eq_getElem hlt) hb e he hbi
          have := h2 e.on (by omega)
          simp [this]⟩
        rw [hr] at this
        cases this
    · obtain ⟨h0, o, ho, hdep⟩ := mem_ready.1 hi
      have ho' : l[i]? = some o := by simpa using ho
      have hlt : i < l.length := (List.getElem?_eq_some_iff.1 ho').1
      have hLi : L[i]? = some false := by
        have : i < L.length := by omega
        simp [this] at h0
        rw [List.getElem?_eq_getElem this, h0]
      have hstep := stepsOk_at l 0 i o ho' hs
      rw [Nat.zero_add] at hstep
      obtain ⟨g1, g2⟩ := hstep m u w (by omega) hC (fun j hj => hF j (by
        obtain ⟨e, he, hbi, rfl⟩ := depOn_spec hj
        have := hdep e (by simpa using he) hbi
        cases hx : L[e.on]? with
        | none => simp [hx] at this
        | some b => simp [hx] at this; rw [this]))
      have next : ∀ v w', C (m + 1) w' → Ev w w' → F i w' v → wpAny P .any l.toArray Q fuel (L.toArray.setIfInBounds i true) ((fr u).put o.dst v) w' := by
        intro v w' hC' hE hFi
        rw [← hfr u, frU_put l 0 i a0 o ho' hd, Nat.zero_add, hfr, List.setIfInBounds_toArray]
        refine ih (L.set i true) (upd u i v) (m + 1) w' (by simpa using hL) (by have := count_false_set hLi; omega) (by omega) hC' (fun j hj => ?_)
        by_cases hji : j = i
        · subst hji
          simp only [upd, if_true]
          exact hFi
        · simp only [upd, if_neg hji]
          rw [List.getElem?_set_ne (by omega)] at hj
          exact hst j w w' _ hE (hF j hj)
      unfold wpOp
      simp only [ho]
      by_cases hw : Region.wanted o (yielded l.toArray (fr u).tmps) = true
      · simp only [hw, if_true]
        refine .inl (g1 hw Q _ (fun a' w' ha hC' hE hFi => ?_))
        rw [ha]
        exact next _ _ hC' hE hFi
      · have hw' : Region.wanted o (yielded l.toArray (fr u).tmps) = false := by simpa using hw
        obtain ⟨hC', hE, hFi⟩ := g2 hw'
        simp only [hw', Bool.false_eq_true, if_false]
        exact next _ _ hC' hE hFi
/-- A region that draws its order: C m holds of the world behind m operations, F i of what operation i has left, and stands whatever comes up behind it (Ev). -/
theorem wp_region_rel {id : Nat} {Q : Exit → Act → World → Prop} {a0 : Act} {w : World} (C : Nat → World → Prop) (Ev : World → World → Prop) (F : Nat → World → Value → Prop)
    (hm : P.follows .mixedOrders = true) (hN : l.length = N) (hfr : ∀ u, frU u l 0 a0 = fr u) (hd : (dstsApart l && depsBefore l 0) = true)
    (hst : ∀ i w w' v, Ev w w' → F i w v → F i w' v) (h0 : C 0 { w with drawn := w.drawn + 1 }) (hs : StepsOk P l N C Ev F fr l 0)
    (hend : ∀ u w', C N w' → (∀ i, i < N → F i w' (u i)) → Q .normal (fr u) w') : (Code.region id l.toArray true).wp P Q a0 w := by
  rw [Bool.and_eq_true] at hd
  refine wp_region_any hm ?_
  have hself : fr (fun i => slotOf ((l[i]?).bind (·.dst)) a0) = a0 := by
    rw [← hfr]
    refine frU_self l 0 a0 (fun k o hk => ?_)
    simp [hk]
  have := wpAny_rel (Q := Q) (P := P) hN hfr hd.1 hd.2 hst hs (hN ▸ hend) l.length (List.replicate l.length false) (fun i => slotOf ((l[i]?).bind (·.dst)) a0) 0 _ (by simp) (by simp) (by omega) h0 (fun i hi => by simp [List.getElem?_replicate] at hi)
  rw [hself] at this
  simpa using this
end
end Go.Proofs.YtkcnbkkgpampaaaDoor
