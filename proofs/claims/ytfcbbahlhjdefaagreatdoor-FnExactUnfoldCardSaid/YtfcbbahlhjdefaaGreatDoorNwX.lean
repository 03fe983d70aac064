/- Boxes of rules in new blocks; the probed packet of many boxes; regions whose operations a guard leaves out. -/
import Derived.Test.YtfcbbahlhjdefaaGreatDoorDxBT
import Derived.Test.YtfcbbahlhjdefaaGreatDoorFdS
import Derived.Test.YtfcbbahlhjdefaaGreatDoorRgX
namespace Go.Proofs.YtfcbbahlhjdefaaGreatDoor
open Go.RowKit
section
variable (P : Program) (l : List Oper) (W : World) (Fs : List (World → Value → Prop)) (fr : (Nat → Value) → Act)
def StepH (i : Nat) (o : Oper) : Prop :=
  ∀ (u : Nat → Value) (w : World), Below W.heap.size W w → (∀ j, depOn o j = true → bof Fs j w (u j)) → (Region.wanted o (yielded l.toArray (fr u).tmps) = true ∧
    ∀ (Q : Exit → Act → World → Prop) (K : Act → World → Prop), (∀ a' w', a' = (fr u).put o.dst (slotOf o.dst a') → Below w.heap.size w w' → bof Fs i w' (slotOf o.dst a') → K a' w') → o.wp P (fr u) w K Q) ∨
    (Region.wanted o (yielded l.toArray (fr u).tmps) = false ∧ bof Fs i w undef)
def StepsH : List Oper → Nat → Prop
  | [], _ => True
  | o :: r, i => StepH P l W Fs fr i o ∧ StepsH r (i + 1)
end
section
variable {P : Program} {l : List Oper} {W : World} {Fs : List (World → Value → Prop)} {fr : (Nat → Value) → Act}
theorem stepsH_ok {N : Nat} : ∀ (r : List Oper) (i : Nat), StepsH P l W Fs fr r i → StepsOk P l N (fun _ w => Below W.heap.size W w) (fun a b => Below a.heap.size a b) (bof Fs) fr r i
  | [], _, _ => trivial
  | _ :: r, i, h => ⟨fun _ u w _ hC hd => by
      rcases h.1 u w hC hd with ⟨h1, h2⟩ | ⟨h1, h2⟩
      · exact ⟨fun _ Q K hK => h2 Q K (fun a' w' ha hb hF => hK a' w' ha (hC.trans (hb.mono hC.size)) hb hF), fun hw => (by rw [h1] at hw; cases hw)⟩
      · exact ⟨fun hw => (by rw [h1] at hw; cases hw), fun _ => ⟨hC, Below.refl _ _, h2⟩⟩, stepsH_ok r (i + 1) h.2⟩
theorem wp_region_belH {id : Nat} {Q : Exit → Act → World → Prop} {a0 : Act} (Fs : List (World → Value → Prop)) (hm : P.follows .mixedOrders = true) (hfr : ∀ u, frU u l 0 a0 = fr u) (hd : (dstsApart l && depsBefore l 0) = true)
    (hst : BAll Fs) (hs : StepsH P l W Fs fr l 0)
    (hend : ∀ u w', Below W.heap.size W w' → (∀ i, i < l.length → bof Fs i w' (u i)) → Q .normal (fr u) w') : (Code.region id l.toArray true).wp P Q a0 W :=
  wp_region_rel (N := l.length) (fun _ w => Below W.heap.size W w) (fun a b => Below a.heap.size a b) (bof Fs) hm rfl hfr hd (fun i w w' v hb h => bof_stb Fs hst i w w' v hb h)
    ⟨rfl, rfl, rfl, Nat.le_refl _, fun _ _ => rfl⟩ (stepsH_ok l 0 hs) hend
theorem stH {i : Nat} {o : Oper}
    (h : ∀ (u : Nat → Value) (w : World), Below W.heap.size W w → (∀ j, depOn o j = true → bof Fs j w (u j)) → (Region.wanted o (yielded l.toArray (fr u).tmps) = true ∧
      ∀ (Q : Exit → Act → World → Prop) (K : Act → World → Prop), (∀ a' w', a' = (fr u).put o.dst (slotOf o.dst a') → Below w.heap.size w w' → bof Fs i w' (slotOf o.dst a') → K a' w') → o.wp P (fr u) w K Q) ∨
      (Region.wanted o (yielded l.toArray (fr u).tmps) = false ∧ bof Fs i w undef)) : StepH P l W Fs fr i o := h
end
end Go.Proofs.YtfcbbahlhjdefaaGreatDoor
