/- Facts on values that may end when a later operation has come up (for Reg2). -/
import Derived.Test.YtkcnbkkgpampaaaDoorReg2
namespace Go.Proofs.YtkcnbkkgpampaaaDoor
open Go.RowKit
abbrev WV3 := List Bool → World → Value → Prop
def HIs (c : Value) : WV3 := fun _ _ v => v = c
/-- Known until operation k has come up. -/
def HTill (k : Nat) (p : World → Value → Prop) : WV3 := fun L w v => L[k]? = some true ∨ p w v
def HW (p : World → Value → Prop) : WV3 := fun _ w v => p w v
def HV (p : Value → Prop) : WV3 := fun _ _ v => p v
def Hof (Fs : List WV3) (L : List Bool) (i : Nat) (w : World) (v : Value) : Prop := match Fs[i]? with
  | some f => f L w v
  | none => True
def BStb (p : World → Value → Prop) : Prop := ∀ w w' v, Below w.heap.size w w' → p w v → p w' v
def HStb (f : WV3) : Prop := ∀ L i w w' v, Below w.heap.size w w' → f L w v → f (L.set i true) w' v
theorem hstb_is (c : Value) : HStb (HIs c) := fun _ _ _ _ _ _ h => h
theorem hstb_v (p : Value → Prop) : HStb (HV p) := fun _ _ _ _ _ _ h => h
theorem hstb_w {p : World → Value → Prop} (hp : BStb p) : HStb (HW p) := fun _ _ w w' v hb h => hp w w' v hb h
theorem setKeeps {L : List Bool} {i k : Nat} (h : L[k]? = some true) : (L.set i true)[k]? = some true := by
  by_cases e : i = k
  · subst e
    rw [List.getElem?_set_self (List.getElem?_eq_some_iff.1 h).1]
  · rw [List.getElem?_set_ne e]; exact h
theorem hstb_till {k : Nat} {p : World → Value → Prop} (hp : BStb p) : HStb (HTill k p) := fun _ _ w w' v hb h => h.elim (fun h => .inl (setKeeps h)) (fun h => .inr (hp w w' v hb h))
def HAll : List WV3 → Prop
  | [] => True
  | f :: Fs => HStb f ∧ HAll Fs
theorem hof_stb : ∀ (Fs : List WV3), HAll Fs → ∀ (L : List Bool) (i j : Nat) (w w' : World) (v : Value), Below w.heap.size w w' → Hof Fs L j w v → Hof Fs (L.set i true) j w' v
  | [], _, _, _, _, _, _, _, _, h => h
  | _ :: _, hs, L, i, 0, w, w', v, hb, h => hs.1 L i w w' v hb h
  | _ :: Fs, hs, L, i, j + 1, w, w', v, hb, h => hof_stb Fs hs.2 L i j w w' v hb h
/-- Operation k comes up and may turn anything: what is known of the others. -/
def HEnd (k : Nat) : List WV3 → Nat → Prop
  | [], _ => True
  | f :: Fs, j => (j ≠ k → ∀ (L : List Bool) w w' v, L[k]? = some false → f L w v → f (L.set k true) w' v) ∧ HEnd k Fs (j + 1)
theorem hof_end {k : Nat} : ∀ (Fs : List WV3) (m : Nat), HEnd k Fs m → ∀ (L : List Bool) (j : Nat) (w w' : World) (v : Value), j + m ≠ k → L[k]? = some false → Hof Fs L j w v → Hof Fs (L.set k true) j w' v
  | [], _, _, _, _, _, _, _, _, _, h => h
  | _ :: _, m, hs, L, 0, w, w', v, hj, hL, h => hs.1 (by omega) L w w' v hL h
  | _ :: Fs, m, hs, L, j + 1, w, w', v, hj, hL, h => hof_end Fs (m + 1) hs.2 L j w w' v (by omega) hL h
theorem hend_is {k : Nat} (c : Value) (j : Nat) : j ≠ k → ∀ (L : List Bool) w w' v, L[k]? = some false → HIs c L w v → HIs c (L.set k true) w' v := fun _ _ _ _ _ _ h => h
theorem hend_v {k : Nat} (p : Value → Prop) (j : Nat) : j ≠ k → ∀ (L : List Bool) w w' v, L[k]? = some false → HV p L w v → HV p (L.set k true) w' v := fun _ _ _ _ _ _ h => h
theorem hend_till {k : Nat} (p : World → Value → Prop) (j : Nat) : j ≠ k → ∀ (L : List Bool) w w' v, L[k]? = some false → HTill k p L w v → HTill k p (L.set k true) w' v :=
  fun _ L _ _ _ hL _ => .inl (by rw [List.getElem?_set_self (List.getElem?_eq_some_iff.1 hL).1])
theorem hend_self {k : Nat} (f : WV3) : k ≠ k → ∀ (L : List Bool) w w' v, L[k]? = some false → f L w v → f (L.set k true) w' v := fun h => absurd rfl h
theorem stepR {P : Program} {l : List Oper} {C : List Bool → World → Prop} {F : List Bool → Nat → World → Value → Prop} {fr : (Nat → Value) → Act} {i : Nat} {o : Oper}
    (h : ∀ (L : List Bool) (u : Nat → Value) (w : World), L[i]? = some false → C L w → (∀ j, depOn o j = true → L[j]? = some true ∧ F L j w (u j)) →
      Region.wanted o (yielded l.toArray (fr u).tmps) = true ∧ ∀ (Q : Exit → Act → World → Prop) (K : Act → World → Prop),
        (∀ a' w', a' = (fr u).put o.dst (slotOf o.dst a') → C (L.set i true) w' → F (L.set i true) i w' (slotOf o.dst a') → (∀ j x, j ≠ i → L[j]? = some true → F L j w x → F (L.set i true) j w' x) → K a' w') → o.wp P (fr u) w K Q) :
    StepOk2 P l C F fr i o := fun L u w h1 h2 h3 _ => ⟨fun _ Q K hK => (h L u w h1 h2 h3).2 Q K (fun a' w' q1 q2 q3 q4 => hK a' w' q1 q2 q3 (fun j z1 z2 z3 => q4 j _ z1 z2 z3)), fun hw => by rw [(h L u w h1 h2 h3).1] at hw; cases hw⟩
/-- The same, where what has come up is closed: an operation has come up behind those for which it waits. -/
theorem stepC {P : Program} {l : List Oper} {C : List Bool → World → Prop} {F : List Bool → Nat → World → Value → Prop} {fr : (Nat → Value) → Act} {i : Nat} {o : Oper}
    (h : ∀ (L : List Bool) (u : Nat → Value) (w : World), L[i]? = some false → C L w → (∀ j, depOn o j = true → L[j]? = some true ∧ F L j w (u j)) → (∀ (j : Nat) o', l[j]? = some o' → L[j]? = some true → ∀ k, depOn o' k = true → L[k]? = some true) →
      Region.wanted o (yielded l.toArray (fr u).tmps) = true ∧ ∀ (Q : Exit → Act → World → Prop) (K : Act → World → Prop),
        (∀ a' w', a' = (fr u).put o.dst (slotOf o.dst a') → C (L.set i true) w' → F (L.set i true) i w' (slotOf o.dst a') → (∀ j x, j ≠ i → L[j]? = some true → F L j w x → F (L.set i true) j w' x) → K a' w') → o.wp P (fr u) w K Q) :
    StepOk2 P l C F fr i o := fun L u w h1 h2 h3 h4 => ⟨fun _ Q K hK => (h L u w h1 h2 h3 h4).2 Q K (fun a' w' q1 q2 q3 q4 => hK a' w' q1 q2 q3 (fun j z1 z2 z3 => q4 j _ z1 z2 z3)), fun hw => by rw [(h L u w h1 h2 h3 h4).1] at hw; cases hw⟩
theorem count_true_set {L : List Bool} {i : Nat} (h : L[i]? = some false) : (L.set i true).count true = L.count true + 1 := by
  induction L generalizing i with
  | nil => simp at h
  | cons b L ih =>
    cases i with
    | zero => simp at h; subst h; simp
    | succ i =>
      have := ih (i := i) (by simpa using h)
      simp only [List.set_cons_succ, List.count_cons]
      omega
theorem count_true_all {L : List Bool} : L.count true ≤ L.length := List.count_le_length
theorem his {c : Value} {L : List Bool} {w : World} {v : Value} (h : HIs c L w v) : v = c := h
theorem htill {k : Nat} {p : World → Value → Prop} {L : List Bool} {w : World} {v : Value} (h : HTill k p L w v) (hL : L[k]? = some false) : p w v := by
  rcases h with h | h
  · rw [hL] at h; cases h
  · exact h
/-- Known, and operation k has come up. -/
def HAnd (k : Nat) (f : WV3) : WV3 := fun L w v => L[k]? = some true ∧ f L w v
theorem hstb_and {k : Nat} {f : WV3} (hf : HStb f) : HStb (HAnd k f) := fun L i w w' v hb h => ⟨setKeeps h.1, hf L i w w' v hb h.2⟩
/-- Operation k comes up at L and may turn anything: what is known of the others. -/
def HEndL (L : List Bool) (k : Nat) : List WV3 → Nat → Prop
  | [], _ => True
  | f :: Fs, j => (j ≠ k → ∀ w w' v, f L w v → f (L.set k true) w' v) ∧ HEndL L k Fs (j + 1)
theorem hof_endL {L : List Bool} {k : Nat} : ∀ (Fs : List WV3) (m : Nat), HEndL L k Fs m → ∀ (j : Nat) (w w' : World) (v : Value), j + m ≠ k → Hof Fs L j w v → Hof Fs (L.set k true) j w' v
  | [], _, _, _, _, _, _, _, h => h
  | _ :: _, m, hs, 0, w, w', v, hj, h => hs.1 (by omega) w w' v h
  | _ :: Fs, m, hs, j + 1, w, w', v, hj, h => hof_endL Fs (m + 1) hs.2 j w w' v (by omega) h
theorem el_is {L : List Bool} {k j : Nat} (c : Value) : j ≠ k → ∀ w w' v, HIs c L w v → HIs c (L.set k true) w' v := fun _ _ _ _ h => h
theorem el_v {L : List Bool} {k j : Nat} (p : Value → Prop) : j ≠ k → ∀ w w' v, HV p L w v → HV p (L.set k true) w' v := fun _ _ _ _ h => h
theorem el_till {L : List Bool} {k j : Nat} (m : Nat) (p : World → Value → Prop) (h : (L.set k true)[m]? = some true) : j ≠ k → ∀ w w' v, HTill m p L w v → HTill m p (L.set k true) w' v := fun _ _ _ _ _ => .inl h
theorem el_and {L : List Bool} {k j : Nat} (m : Nat) {f : WV3} (h : j ≠ k → ∀ w w' v, f L w v → f (L.set k true) w' v) : j ≠ k → ∀ w w' v, HAnd m f L w v → HAnd m f (L.set k true) w' v := fun hj w w' v g => ⟨setKeeps g.1, h hj w w' v g.2⟩
theorem el_late {L : List Bool} {k j : Nat} {f : WV3} (hL : L[k]? = some false) : j ≠ k → ∀ w w' v, HAnd k f L w v → HAnd k f (L.set k true) w' v := fun _ _ _ _ h => by exact absurd (hL.symm.trans h.1) (by simp)
theorem el_self {L : List Bool} {k : Nat} (f : WV3) : k ≠ k → ∀ w w' v, f L w v → f (L.set k true) w' v := fun h => absurd rfl h
theorem set_now {L : List Bool} {k : Nat} (h : L[k]? = some false) : (L.set k true)[k]? = some true := by
  rw [List.getElem?_set_self (List.getElem?_eq_some_iff.1 h).1]
end Go.Proofs.YtkcnbkkgpampaaaDoor
