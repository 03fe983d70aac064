/- Reg, where an operation may read a place that a later one writes. -/
import Derived.Test.YtfnfpekjjmejnaaReg2
namespace Go.Proofs.Ytfnfpekjjmejnaa
open Go.RowKit
section
variable (P : Program) (l : List Oper) (N : Nat) (C : Nat → World → Prop) (Ev : World → World → Prop) (F : Nat → World → Value → Prop) (fr : (Nat → Value) → Act) (u0 : Nat → Value)
/-- StepOk, with the places of the operations that wait for this one as they were. -/
def StepOkI (i : Nat) (o : Oper) : Prop :=
  ∀ (m : Nat) (u : Nat → Value) (w : World), m < N → C m w → (∀ j, depOn o j = true → F j w (u j)) → (∀ (j : Nat) o', l[j]? = some o' → depOn o' i = true → u j = u0 j) →
    (Region.wanted o (yielded l.toArray (fr u).tmps) = true → ∀ (Q : Exit → Act → World → Prop) (K : Act → World → Prop),
      (∀ a' w', a' = (fr u).put o.dst (slotOf o.dst a') → C (m + 1) w' → Ev w w' → F i w' (slotOf o.dst a') → K a' w') → o.wp P (fr u) w K Q) ∧
    (Region.wanted o (yielded l.toArray (fr u).tmps) = false → C (m + 1) w ∧ Ev w w ∧ F i w undef)
def StepsOkI : List Oper → Nat → Prop
  | [], _ => True
  | o :: r, i => StepOkI P l N C Ev F fr u0 i o ∧ StepsOkI r (i + 1)
end
section
variable {P : Program} {l : List Oper} {N : Nat} {C : Nat → World → Prop} {Ev : World → World → Prop} {F : Nat → World → Value → Prop} {fr : (Nat → Value) → Act} {u0 : Nat → Value}
theorem StepOk.toI {i : Nat} {o : Oper} (h : StepOk P l N C Ev F fr i o) : StepOkI P l N C Ev F fr u0 i o := fun m u w h1 h2 h3 _ => h m u w h1 h2 h3
theorem stepI {i : Nat} {o : Oper} (hg : o.guard = none)
    (h : ∀ (m : Nat) (u : Nat → Value) (w : World), m < N → C m w → (∀ j, depOn o j = true → F j w (u j)) → (∀ (j : Nat) o', l[j]? = some o' → depOn o' i = true → u j = u0 j) →
      ∀ (Q : Exit → Act → World → Prop) (K : Act → World → Prop), (∀ a' w', a' = (fr u).put o.dst (slotOf o.dst a') → C (m + 1) w' → Ev w w' → F i w' (slotOf o.dst a') → K a' w') → o.wp P (fr u) w K Q) :
    StepOkI P l N C Ev F fr u0 i o := fun m u w hm hC hd hi => ⟨fun _ => h m u w hm hC hd hi, fun hw => by simp [Region.wanted, hg] at hw⟩
theorem stepsOkI_at : ∀ (r : List Oper) (i k : Nat) (o : Oper), r[k]? = some o → StepsOkI P l N C Ev F fr u0 r i → StepOkI P l N C Ev F fr u0 (i + k) o
  | [], _, _, _, h, _ => by simp at h
  | p :: r, i, 0, o, h, hs => by
    simp at h
    subst h
    exact hs.1
  | p :: r, i, k + 1, o, h, hs => by
    have := stepsOkI_at r (i + 1) k o (by simpa using h) hs.2
    rwa [show i + 1 + k = i + (k + 1) from by omega] at this
theorem wpAny_relI {Q : Exit → Act → World → Prop} {a0 : Act} (hN : l.length = N) (hfr : ∀ u, frU u l 0 a0 = fr u) (hd : dstsApart l = true) (hb : depsBefore l 0 = true)
    (hst : ∀ i w w' v, Ev w w' → F i w v → F i w' v) (hs : StepsOkI P l N C Ev F fr u0 l 0)
    (hend : ∀ u w', C l.length w' → (∀ i, i < l.length → F i w' (u i)) → Q .normal (fr u) w') :
    ∀ (fuel : Nat) (L : List Bool) (u : Nat → Value) (m : Nat) (w : World), L.length = l.length → L.count false = fuel → m + fuel = l.length → C m w → (∀ i : Nat, L[i]? = some true → F i w (u i)) → (∀ (j : Nat) o', l[j]? = some o' → L[j]? = some true → ∀ k, depOn o' k = true → L[k]? = some true) → (∀ j : Nat, L[j]? ≠ some true → u j = u0 j) →
      wpAny P .any l.toArray Q fuel L.toArray (fr u) w := by
  intro fuel
  induction fuel with
  | zero =>
    intro L u m w hL hc hm hC hF _ _
    have hall : ∀ i : Nat, i < L.length → L[i]? = some true := by
      rcases first_false L with h | ⟨i, h1, _⟩
      · exact h
      · have := List.count_pos_iff.2 (List.mem_of_getElem? h1); omega
    refine ⟨?_, hend u w (by rw [← hm]; exact hC) (fun i hi => hF i (hall i (by omega)))⟩
    refine List.eq_nil_iff_forall_not_mem.2 (fun i hi => ?_)
    obtain ⟨h0, o, ho, _⟩ := mem_ready.1 hi
    have hlt : i < l.length := by simpa using (Array.getElem?_eq_some_iff.1 ho).1
    have := hall i (by omega)
    simp [this] at h0
  | succ fuel ih =>
    intro L u m w hL hc hm hC hF hcl hI
    refine ⟨fun hr => ?_, fun i hi => ?_⟩
    · exfalso
      rcases first_false L with h | ⟨i, h1, h2⟩
      · have : L.count false = 0 := List.count_eq_zero.2 (fun hmem => by
          obtain ⟨i, hi, he⟩ := List.getElem_of_mem hmem
          have := h i hi
          rw [List.getElem?_eq_getElem hi, he] at this
          simp at this)
        omega
      · have hlt : i < l.length := by rw [← hL]; exact (List.getElem?_eq_some_iff.1 h1).1
        have : i ∈ Region.ready .any l.toArray L.toArray := mem_ready.2 ⟨by simp [h1], l[i], by simp, fun e he hbi => by
          have := depsBefore_spec l 0 i l[i] (List.getElem?_eq_getElem hlt) hb e he hbi
          have := h2 e.on (by omega)
          simp [this]⟩
        rw [hr] at this
        cases this
    · obtain ⟨h0, o, ho, hdep⟩ := mem_ready.1 hi
      have ho' : l[i]? = some o := by simpa using ho
      have hlt : i < l.length := (List.getElem?_eq_some_iff.1 ho').1
      have hLi : L[i]? = some false := by
        have : i < L.length := by omega
        simp [this] at h0
        rw [List.getElem?_eq_getElem this, h0]
      have hstep := stepsOkI_at l 0 i o ho' hs
      rw [Nat.zero_add] at hstep
      obtain ⟨g1, g2⟩ := hstep m u w (by omega) hC (fun j hj => hF j (by
        obtain ⟨e, he, hbi, rfl⟩ := depOn_spec hj
        have := hdep e (by simpa using he) hbi
        cases hx : L[e.on]? with
        | none => simp [hx] at this
        | some b => simp [hx] at this; rw [this])) (fun j o' hj hji => hI j (fun ht => by
        have := hcl j o' hj ht i hji
        rw [hLi] at this; cases this))
      have next : ∀ v w', C (m + 1) w' → Ev w w' → F i w' v → wpAny P .any l.toArray Q fuel (L.toArray.setIfInBounds i true) ((fr u).put o.dst v) w' := by
        intro v w' hC' hE hFi
        rw [← hfr u, frU_put l 0 i a0 o ho' hd, Nat.zero_add, hfr, List.setIfInBounds_toArray]
        refine ih (L.set i true) (upd u i v) (m + 1) w' (by simpa using hL) (by have := count_false_set hLi; omega) (by omega) hC' (fun j hj => ?_) (fun j o' hj hjt k hk => ?_) (fun j hj => ?_)
        case refine_2 =>
          by_cases hji : i = j
          · subst hji
            rw [ho'] at hj
            cases hj
            obtain ⟨e, he, hbi, rfl⟩ := depOn_spec hk
            have hk2 := hdep e (by simpa using he) hbi
            have ht : L[e.on]? = some true := by
              cases hx : L[e.on]? with
              | none => simp [hx] at hk2
              | some b => simp [hx] at hk2; rw [hk2]
            by_cases hie : i = e.on
            · rw [← hie] at ht; rw [hLi] at ht; cases ht
            · rw [List.getElem?_set_ne hie]; exact ht
          · rw [List.getElem?_set_ne hji] at hjt
            have ht := hcl j o' hj hjt k hk
            by_cases hik : i = k
            · rw [← hik] at ht; rw [hLi] at ht; cases ht
            · rw [List.getElem?_set_ne hik]; exact ht
        case refine_3 =>
          have hji : j ≠ i := by
            intro e; subst e
            exact hj (by rw [List.getElem?_set_self (List.getElem?_eq_some_iff.1 hLi).1])
          simp only [upd, if_neg hji]
          rw [List.getElem?_set_ne (by omega)] at hj
          exact hI j hj
        by_cases hji : j = i
        · subst hji
          simp only [upd, if_true]
          exact hFi
        · simp only [upd, if_neg hji]
          rw [List.getElem?_set_ne (by omega)] at hj
          exact hst j w w' _ hE (hF j hj)
      unfold wpOp
      simp only [ho]
      by_cases hw : Region.wanted o (yielded l.toArray (fr u).tmps) = true
      · simp only [hw, if_true]
        refine .inl (g1 hw Q _ (fun a' w' ha hC' hE hFi => ?_))
        rw [ha]
        exact next _ _ hC' hE hFi
      · have hw' : Region.wanted o (yielded l.toArray (fr u).tmps) = false := by simpa using hw
        obtain ⟨hC', hE, hFi⟩ := g2 hw'
        simp only [hw', Bool.false_eq_true, if_false]
        exact next _ _ hC' hE hFi
/-- A region that draws its order: C m holds of the world behind m operations, F i of what operation i has left, and stands whatever comes up behind it (Ev). -/
theorem wp_region_relI {id : Nat} {Q : Exit → Act → World → Prop} {a0 : Act} {w : World} (C : Nat → World → Prop) (Ev : World → World → Prop) (F : Nat → World → Value → Prop)
    (hm : P.follows .mixedOrders = true) (hN : l.length = N) (hfr : ∀ u, frU u l 0 a0 = fr u) (hd : (dstsApart l && depsBefore l 0) = true)
    (hst : ∀ i w w' v, Ev w w' → F i w v → F i w' v) (h0 : C 0 { w with drawn := w.drawn + 1 }) (hs : StepsOkI P l N C Ev F fr (fun i => slotOf ((l[i]?).bind (·.dst)) a0) l 0)
    (hend : ∀ u w', C N w' → (∀ i, i < N → F i w' (u i)) → Q .normal (fr u) w') : (Code.region id l.toArray true).wp P Q a0 w := by
  rw [Bool.and_eq_true] at hd
  refine wp_region_any hm ?_
  have hself : fr (fun i => slotOf ((l[i]?).bind (·.dst)) a0) = a0 := by
    rw [← hfr]
    refine frU_self l 0 a0 (fun k o hk => ?_)
    simp [hk]
  have := wpAny_relI (Q := Q) (P := P) hN hfr hd.1 hd.2 hst hs (hN ▸ hend) l.length (List.replicate l.length false) (fun i => slotOf ((l[i]?).bind (·.dst)) a0) 0 _ (by simp) (by simp) (by omega) h0 (fun i hi => by simp [List.getElem?_replicate] at hi) (fun j o' _ hj => by simp [List.getElem?_replicate] at hj) (fun _ _ => rfl)
  rw [hself] at this
  simpa using this
end
end Go.Proofs.Ytfnfpekjjmejnaa
