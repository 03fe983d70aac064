/- A region that draws its order and ends in two stores, each behind all that stands before it. -/
import Derived.Test.YtfcbbahlhjdefaaDoorRgX
namespace Go.Proofs.YtfcbbahlhjdefaaDoor
open Go.RowKit
section
variable (P : Program) (n : Nat) (C : Nat → World → Prop) (E : World → World → Prop) (F : Nat → World → Value → Prop) (D1 D2 : World → Prop) (fr : (Nat → Value) → Act)
def StepN1 (o : Oper) : Prop :=
  o.guard = none ∧ ∀ (m : Nat) (u : Nat → Value) (w : World), m < n + 2 → C m w → (∀ j, depOn o j = true → F j w (u j)) →
    ∀ (Q : Exit → Act → World → Prop) (K : Act → World → Prop), (∀ a' w', a' = (fr u).put o.dst (slotOf o.dst a') → D1 w' → K a' w') → o.wp P (fr u) w K Q
def StepN2 (o : Oper) : Prop :=
  o.guard = none ∧ ∀ (u : Nat → Value) (w : World), D1 w → (∀ j, depOn o j = true → j < n → ∃ wz, F j wz (u j)) →
    ∀ (Q : Exit → Act → World → Prop) (K : Act → World → Prop), (∀ a' w', a' = (fr u).put o.dst (slotOf o.dst a') → D2 w' → K a' w') → o.wp P (fr u) w K Q
def StepsN : List Oper → Nat → Prop
  | [o, p], _ => StepN1 P n C F D1 fr o ∧ StepN2 P n F D1 D2 fr p
  | o :: r, i => StepS P (n + 2) C E F fr i o ∧ StepsN r (i + 1)
  | [], _ => True
end
section
variable {P : Program} {l : List Oper} {n : Nat} {C : Nat → World → Prop} {E : World → World → Prop} {F : Nat → World → Value → Prop} {D1 D2 : World → Prop} {fr : (Nat → Value) → Act}
def CN (n : Nat) (C : Nat → World → Prop) (D1 D2 : World → Prop) (L : List Bool) (w : World) : Prop :=
  L.length = n + 2 ∧ ((L[n]? = some false ∧ L[n + 1]? = some false ∧ C (L.count true) w) ∨ (L[n]? = some true ∧ L[n + 1]? = some false ∧ D1 w) ∨ (L[n + 1]? = some true ∧ D2 w))
def FN (n : Nat) (F : Nat → World → Value → Prop) (L : List Bool) (i : Nat) (w : World) (v : Value) : Prop := (L[n]? = some false ∧ F i w v) ∨ (L[n]? = some true ∧ (i < n → ∃ wz, F i wz v))
/-- The first store waits for all before it, the second one too. -/
def lastTwo (l : List Oper) (n : Nat) : Bool := ((List.range n).all fun i => reachB l (n + 2) n i) && ((List.range (n + 1)).all fun i => reachB l (n + 2) (n + 1) i)
theorem reach_pre {L : List Bool} {f a i : Nat} {o : Oper} (hcl : ∀ (j : Nat) o', l[j]? = some o' → L[j]? = some true → ∀ k, depOn o' k = true → L[k]? = some true) (ho : l[a]? = some o) (hd : ∀ j, depOn o j = true → L[j]? = some true) (h : reachB l (f + 1) a i = true) : L[i]? = some true := by
  unfold reachB at h
  rw [ho] at h
  simp only [Bool.or_eq_true, List.any_eq_true, Bool.and_eq_true] at h
  rcases h with h | ⟨j, _, h1, h2⟩
  · exact hd i h
  · exact reach_done hcl f j i h2 (hd j h1)
theorem stepsN_ok (hst : ∀ i w w' v, E w w' → F i w v → F i w' v) (h1 : ∀ i, i < n → reachB l (n + 2) n i = true) (h2 : ∀ i, i < n + 1 → reachB l (n + 2) (n + 1) i = true) :
    ∀ (r : List Oper) (i : Nat), l.drop i = r → i + r.length = n + 2 → 2 ≤ r.length → StepsN P n C E F D1 D2 fr r i → StepsOk2 P l (CN n C D1 D2) (FN n F) fr r i
  | [], _, _, _, h, _ => by simp at h
  | [_], _, _, _, h, _ => by simp at h
  | [o, p], i, hdr, hi, _, h => by
    obtain rfl : i = n := by simp only [List.length_cons, List.length_nil] at hi; omega
    refine ⟨fun L u w g1 g2 g3 g4 => ⟨fun _ Q K hK => ?_, fun hw => by simp [Region.wanted, h.1.1] at hw⟩, fun L u w g1 g2 g3 g4 => ⟨fun _ Q K hK => ?_, fun hw => by simp [Region.wanted, h.2.1] at hw⟩, trivial⟩
    · have hC : L[i + 1]? = some false ∧ C (L.count true) w := by
        rcases g2.2 with k | k | k
        · exact k.2
        · rw [g1] at k; simp at k
        · have := reach_done g4 _ _ _ (h2 i (by omega)) k.1
          rw [g1] at this; cases this
      have hnt : ∀ {p : Prop}, ¬ (L[i]? = some true ∧ p) := fun k => by rw [g1] at k; simp at k
      have hset : (L.set i true)[i]? = some true := List.getElem?_set_self (List.getElem?_eq_some_iff.1 g1).1
      exact h.1.2 (L.count true) u w (by have := count_true_lt g1; have := g2.1; omega) hC.2 (fun j hj => (((g3 j hj).2).resolve_right hnt).2) Q K
        (fun a' w' ha hD => hK a' w' ha ⟨by rw [List.length_set]; exact g2.1, .inr (.inl ⟨hset, by rw [List.getElem?_set_ne (by omega)]; exact hC.1, hD⟩)⟩ (.inr ⟨hset, fun k => absurd k (by omega)⟩) (fun j _ _ hx => .inr ⟨hset, fun _ => ⟨w, (hx.resolve_right hnt).2⟩⟩))
    · have hn : L[i]? = some true ∧ D1 w := by
        rcases g2.2 with k | k | k
        · have h9 : L[i]? = some true := reach_pre g4 (show l[i + 1]? = some p by
            have h8 : (l.drop i)[1]? = some p := by rw [hdr]; rfl
            rwa [List.getElem?_drop] at h8) (fun j hj => (g3 j hj).1) (h2 i (by omega))
          rw [h9] at k; simp at k
        · exact ⟨k.1, k.2.2⟩
        · rw [g1] at k; simp at k
      have hset : (L.set (i + 1) true)[i + 1]? = some true := List.getElem?_set_self (List.getElem?_eq_some_iff.1 g1).1
      have hsn : (L.set (i + 1) true)[i]? = some true := by rw [List.getElem?_set_ne (by omega)]; exact hn.1
      have hV : ∀ j, depOn p j = true → j < i → ∃ wz, F j wz (u j) := fun j hd hj => by
        rcases (g3 j hd).2 with k | k
        · rw [hn.1] at k; simp at k
        · exact k.2 hj
      exact h.2.2 u w hn.2 hV Q K
        (fun a' w' ha hD2 => hK a' w' ha ⟨by rw [List.length_set]; exact g2.1, .inr (.inr ⟨hset, hD2⟩)⟩ (.inr ⟨hsn, fun k => absurd k (by omega)⟩) (fun j _ _ hx => .inr ⟨hsn, fun k => by
          rcases hx with y | y
          · rw [hn.1] at y; simp at y
          · exact y.2 k⟩))
  | o :: p :: q :: r, i, hdr, hi, _, h => by
    have hin : i < n := by simp only [List.length_cons] at hi; omega
    refine ⟨fun L u w g1 g2 g3 g4 => ⟨fun _ Q K hK => ?_, fun hw => by simp [Region.wanted, h.1.1] at hw⟩, stepsN_ok hst h1 h2 (p :: q :: r) (i + 1) (by rw [← List.drop_drop, hdr]; rfl) (by simp only [List.length_cons] at hi ⊢; omega) (by simp) h.2⟩
    have hC : L[n]? = some false ∧ L[n + 1]? = some false ∧ C (L.count true) w := by
      rcases g2.2 with k | k | k
      · exact k
      · have := reach_done g4 _ _ _ (h1 i hin) k.1
        rw [g1] at this; cases this
      · have := reach_done g4 _ _ _ (h2 i (by omega)) k.1
        rw [g1] at this; cases this
    have hnt : ∀ {p : Prop}, ¬ (L[n]? = some true ∧ p) := fun k => by rw [hC.1] at k; simp at k
    refine h.1.2 (L.count true) u w (by have := count_true_lt hC.1; have := g2.1; omega) hC.2.2 (fun j hj => (((g3 j hj).2).resolve_right hnt).2) Q K (fun a' w' ha hC' hE hF => ?_)
    refine hK a' w' ha ⟨by rw [List.length_set]; exact g2.1, .inl ⟨by rw [List.getElem?_set_ne (by omega)]; exact hC.1, by rw [List.getElem?_set_ne (by omega)]; exact hC.2.1, by rw [count_true_set g1]; exact hC'⟩⟩ (.inl ⟨by rw [List.getElem?_set_ne (by omega)]; exact hC.1, hF⟩) (fun j hj hLj hx => .inl ⟨by rw [List.getElem?_set_ne (by omega)]; exact hC.1, hst j _ _ _ hE (hx.resolve_right hnt).2⟩)
theorem wp_region_two {id : Nat} {Q : Exit → Act → World → Prop} {a0 : Act} {w : World} (C : Nat → World → Prop) (E : World → World → Prop) (F : Nat → World → Value → Prop) (D1 D2 : World → Prop) (n : Nat)
    (hm : P.follows .mixedOrders = true) (hn : l.length = n + 2) (hfr : ∀ u, frU u l 0 a0 = fr u) (hd : (dstsApart l && depsBefore l 0) = true) (hla : lastTwo l n = true)
    (hst : ∀ i w w' v, E w w' → F i w v → F i w' v) (h0 : C 0 { w with drawn := w.drawn + 1 }) (hs : StepsN P n C E F D1 D2 fr l 0)
    (hend : ∀ u w', D2 w' → Q .normal (fr u) w') : (Code.region id l.toArray true).wp P Q a0 w := by
  unfold lastTwo at hla
  simp only [Bool.and_eq_true, List.all_eq_true, List.mem_range] at hla
  refine wp_region_rel2 (CN n C D1 D2) (FN n F) hm hfr hd ⟨by simp [hn], .inl ⟨by simp [hn], by simp [hn], by rw [show (List.replicate l.length false).count true = 0 from by simp [List.count_replicate]]; exact h0⟩⟩ (stepsN_ok hst hla.1 hla.2 l 0 rfl (by omega) (by omega) hs) (fun L u w' hL hC _ => hend u w' ?_)
  rcases hC.2 with h | h | h
  · have := hL n (by omega)
    rw [h.1] at this; simp at this
  · have := hL (n + 1) (by omega)
    rw [h.2.1] at this; simp at this
  · exact h.2
end
end Go.Proofs.YtfcbbahlhjdefaaDoor
