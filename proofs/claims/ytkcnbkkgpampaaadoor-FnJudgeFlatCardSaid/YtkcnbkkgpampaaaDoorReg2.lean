/- A region that draws its order, where what is known of a value may end when another operation has come up. -/
import Derived.Test.YtkcnbkkgpampaaaDoorReg
namespace Go.Proofs.YtkcnbkkgpampaaaDoor
open Go.RowKit
section
variable (P : Program) (l : List Oper) (C : List Bool → World → Prop) (F : List Bool → Nat → World → Value → Prop) (fr : (Nat → Value) → Act)
/-- What is to be shown of operation number i, where L tells which have come up. -/
def StepOk2 (i : Nat) (o : Oper) : Prop :=
  ∀ (L : List Bool) (u : Nat → Value) (w : World), L[i]? = some false → C L w → (∀ j, depOn o j = true → L[j]? = some true ∧ F L j w (u j)) → (∀ (j : Nat) o', l[j]? = some o' → L[j]? = some true → ∀ k, depOn o' k = true → L[k]? = some true) →
    (Region.wanted o (yielded l.toArray (fr u).tmps) = true → ∀ (Q : Exit → Act → World → Prop) (K : Act → World → Prop),
      (∀ a' w', a' = (fr u).put o.dst (slotOf o.dst a') → C (L.set i true) w' → F (L.set i true) i w' (slotOf o.dst a') → (∀ j, j ≠ i → L[j]? = some true → F L j w (u j) → F (L.set i true) j w' (u j)) → K a' w') → o.wp P (fr u) w K Q) ∧
    (Region.wanted o (yielded l.toArray (fr u).tmps) = false → C (L.set i true) w ∧ F (L.set i true) i w undef ∧ (∀ j, j ≠ i → L[j]? = some true → F L j w (u j) → F (L.set i true) j w (u j)))
def StepsOk2 : List Oper → Nat → Prop
  | [], _ => True
  | o :: r, i => StepOk2 P l C F fr i o ∧ StepsOk2 r (i + 1)
end
section
variable {P : Program} {l : List Oper} {C : List Bool → World → Prop} {F : List Bool → Nat → World → Value → Prop} {fr : (Nat → Value) → Act}
theorem stepsOk2_at : ∀ (r : List Oper) (i k : Nat) (o : Oper), r[k]? = some o → StepsOk2 P l C F fr r i → StepOk2 P l C F fr (i + k) o
  | [], _, _, _, h, _ => by simp at h
  | p :: r, i, 0, o, h, hs => by
    simp at h
    subst h
    exact hs.1
  | p :: r, i, k + 1, o, h, hs => by
    have := stepsOk2_at r (i + 1) k o (by simpa using h) hs.2
    rwa [show i + 1 + k = i + (k + 1) from by omega] at this
theorem wpAny_rel2 {Q : Exit → Act → World → Prop} {a0 : Act} (hfr : ∀ u, frU u l 0 a0 = fr u) (hd : dstsApart l = true) (hb : depsBefore l 0 = true)
    (hs : StepsOk2 P l C F fr l 0)
    (hend : ∀ L u w', (∀ i : Nat, i < l.length → L[i]? = some true) → C L w' → (∀ i, i < l.length → F L i w' (u i)) → Q .normal (fr u) w') :
    ∀ (fuel : Nat) (L : List Bool) (u : Nat → Value) (w : World), L.length = l.length → L.count false = fuel → C L w → (∀ i : Nat, L[i]? = some true → F L i w (u i)) → (∀ (j : Nat) o', l[j]? = some o' → L[j]? = some true → ∀ k, depOn o' k = true → L[k]? = some true) →
      wpAny P .any l.toArray Q fuel L.toArray (fr u) w := by
  intro fuel
  induction fuel with
  | zero =>
    intro L u w hL hc hC hF _
    have hall : ∀ i : Nat, i < L.length → L[i]? = some true := by
      rcases first_false L with h | ⟨i, h1, _⟩
      · exact h
      · have := List.count_pos_iff.2 (List.mem_of_getElem? h1); omega
    refine ⟨?_, hend L u w (fun i hi => hall i (by omega)) hC (fun i hi => hF i (hall i (by omega)))⟩
    refine List.eq_nil_iff_forall_not_mem.2 (fun i hi => ?_)
    obtain ⟨h0, o, ho, _⟩ := mem_ready.1 hi
    have hlt : i < l.length := by simpa using (Array.getElem?_eq_some_iff.1 ho).1
    have := hall i (by omega)
    simp [this] at h0
  | succ fuel ih =>
    intro L u w hL hc hC hF hcl
    refine ⟨fun hr => ?_, fun i hi => ?_⟩
    · exfalso
      rcases first_false L with h | ⟨i, h1, h2⟩
      · have : L.count false = 0 := List.count_eq_zero.2 (fun hmem => by
          obtain ⟨i, hi, he⟩ := List.getElem_of_mem hmem
          have := h i hi
          rw [List.getElem?_eq_getElem hi, he] at this
          simp at this)
        omega
      · have hlt : i < l.length := by rw [← hL]; exact (List.getElem?_eq_some_iff.1 h1).1
        have : i ∈ Region.ready .any l.toArray L.toArray := mem_ready.2 ⟨by simp [h1], l[i], by simp, fun e he hbi => by
          have := depsBefore_spec l 0 i l[i] (List.getElem?_eq_getElem hlt) hb e he hbi
          have := h2 e.on (by omega)
          simp [this]⟩
        rw [hr] at this
        cases this
    · obtain ⟨h0, o, ho, hdep⟩ := mem_ready.1 hi
      have ho' : l[i]? = some o := by simpa using ho
      have hlt : i < l.length := (List.getElem?_eq_some_iff.1 ho').1
      have hLi : L[i]? = some false := by
        have : i < L.length := by omega
        simp [this] at h0
        rw [List.getElem?_eq_getElem this, h0]
      have hstep := stepsOk2_at l 0 i o ho' hs
      rw [Nat.zero_add] at hstep
      obtain ⟨g1, g2⟩ := hstep L u w hLi hC (fun j hj => by
        obtain ⟨e, he, hbi, rfl⟩ := depOn_spec hj
        have := hdep e (by simpa using he) hbi
        have ht : L[e.on]? = some true := by
          cases hx : L[e.on]? with
          | none => simp [hx] at this
          | some b => simp [hx] at this; rw [this]
        exact ⟨ht, hF e.on ht⟩) hcl
      have next : ∀ v w', C (L.set i true) w' → F (L.set i true) i w' v → (∀ j, j ≠ i → L[j]? = some true → F L j w (u j) → F (L.set i true) j w' (u j)) → wpAny P .any l.toArray Q fuel (L.toArray.setIfInBounds i true) ((fr u).put o.dst v) w' := by
        intro v w' hC' hFi hst
        rw [← hfr u, frU_put l 0 i a0 o ho' hd, Nat.zero_add, hfr, List.setIfInBounds_toArray]
        refine ih (L.set i true) (upd u i v) w' (by simpa using hL) (by have := count_false_set hLi; omega) hC' (fun j hj => ?_) (fun j o' hj hjt k hk => ?_)
        case refine_2 =>
          by_cases hji : i = j
          · subst hji
            rw [ho'] at hj
            cases hj
            obtain ⟨e, he, hbi, rfl⟩ := depOn_spec hk
            have hk2 := hdep e (by simpa using he) hbi
            have ht : L[e.on]? = some true := by
              cases hx : L[e.on]? with
              | none => simp [hx] at hk2
              | some b => simp [hx] at hk2; rw [hk2]
            by_cases hie : i = e.on
            · rw [← hie] at ht; rw [hLi] at ht; cases ht
            · rw [List.getElem?_set_ne hie]; exact ht
          · rw [List.getElem?_set_ne hji] at hjt
            have ht := hcl j o' hj hjt k hk
            by_cases hik : i = k
            · rw [← hik] at ht; rw [hLi] at ht; cases ht
            · rw [List.getElem?_set_ne hik]; exact ht
        by_cases hji : j = i
        · subst hji
          simp only [upd, if_true]
          exact hFi
        · simp only [upd, if_neg hji]
          rw [List.getElem?_set_ne (by omega)] at hj
          exact hst j hji hj (hF j hj)
      unfold wpOp
      simp only [ho]
      by_cases hw : Region.wanted o (yielded l.toArray (fr u).tmps) = true
      · simp only [hw, if_true]
        refine .inl (g1 hw Q _ (fun a' w' ha hC' hFi hst => ?_))
        rw [ha]
        exact next _ _ hC' hFi hst
      · have hw' : Region.wanted o (yielded l.toArray (fr u).tmps) = false := by simpa using hw
        obtain ⟨hC', hFi, hst⟩ := g2 hw'
        simp only [hw', Bool.false_eq_true, if_false]
        exact next _ _ hC' hFi hst
/-- A region that draws its order: C L holds of the world, F L i of what operation i has left, where L tells which have come up. -/
theorem wp_region_rel2 {id : Nat} {Q : Exit → Act → World → Prop} {a0 : Act} {w : World} (C : List Bool → World → Prop) (F : List Bool → Nat → World → Value → Prop)
    (hm : P.follows .mixedOrders = true) (hfr : ∀ u, frU u l 0 a0 = fr u) (hd : (dstsApart l && depsBefore l 0) = true)
    (h0 : C (List.replicate l.length false) { w with drawn := w.drawn + 1 }) (hs : StepsOk2 P l C F fr l 0)
    (hend : ∀ L u w', (∀ i : Nat, i < l.length → L[i]? = some true) → C L w' → (∀ i, i < l.length → F L i w' (u i)) → Q .normal (fr u) w') : (Code.region id l.toArray true).wp P Q a0 w := by
  rw [Bool.and_eq_true] at hd
  refine wp_region_any hm ?_
  have hself : fr (fun i => slotOf ((l[i]?).bind (·.dst)) a0) = a0 := by
    rw [← hfr]
    refine frU_self l 0 a0 (fun k o hk => ?_)
    simp [hk]
  have := wpAny_rel2 (Q := Q) (P := P) hfr hd.1 hd.2 hs hend l.length (List.replicate l.length false) (fun i => slotOf ((l[i]?).bind (·.dst)) a0) _ (by simp) (by simp) h0 (fun i hi => by simp [List.getElem?_replicate] at hi) (fun j o' _ hj => by simp [List.getElem?_replicate] at hj)
  rw [hself] at this
  simpa using this
end
end Go.Proofs.YtkcnbkkgpampaaaDoor
