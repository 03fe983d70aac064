/- A region that draws its order and turns nothing of what was there before it: by what each of its operations leaves. -/
import Derived.Test.YtkcnbkkgpampaaaDoorReg3
namespace Go.Proofs.YtkcnbkkgpampaaaDoor
open Go.RowKit
def bof (Fs : List (World → Value → Prop)) (i : Nat) : World → Value → Prop := match Fs[i]? with
  | some f => f
  | none => fun _ _ => True
def BAll : List (World → Value → Prop) → Prop
  | [] => True
  | f :: Fs => BStb f ∧ BAll Fs
theorem bof_stb : ∀ (Fs : List (World → Value → Prop)), BAll Fs → ∀ (i : Nat) (w w' : World) (v : Value), Below w.heap.size w w' → bof Fs i w v → bof Fs i w' v
  | [], _, _, _, _, _, _, h => h
  | _ :: _, hs, 0, w, w', v, hb, h => hs.1 w w' v hb h
  | _ :: Fs, hs, i + 1, w, w', v, hb, h => bof_stb Fs hs.2 i w w' v hb h
def BIs (c : Value) : World → Value → Prop := fun _ v => v = c
theorem bst_is (c : Value) : BStb (BIs c) := fun _ _ _ _ h => h
def BAny : World → Value → Prop := fun _ _ => True
theorem bst_any : BStb BAny := fun _ _ _ _ h => h
def BV (p : Value → Prop) : World → Value → Prop := fun _ v => p v
theorem bst_v (p : Value → Prop) : BStb (BV p) := fun _ _ _ _ h => h
theorem bis {c : Value} {w : World} {v : Value} (h : BIs c w v) : v = c := h
section
variable (P : Program) (W : World) (Fs : List (World → Value → Prop)) (fr : (Nat → Value) → Act)
/-- What is to be shown of operation number i. -/
def StepB (i : Nat) (o : Oper) : Prop :=
  o.guard = none ∧ ∀ (u : Nat → Value) (w : World), Below W.heap.size W w → (∀ j, depOn o j = true → bof Fs j w (u j)) →
    ∀ (Q : Exit → Act → World → Prop) (K : Act → World → Prop), (∀ a' w', a' = (fr u).put o.dst (slotOf o.dst a') → Below w.heap.size w w' → bof Fs i w' (slotOf o.dst a') → K a' w') → o.wp P (fr u) w K Q
def StepsB : List Oper → Nat → Prop
  | [], _ => True
  | o :: r, i => StepB P W Fs fr i o ∧ StepsB r (i + 1)
end
section
variable {P : Program} {l : List Oper} {W : World} {Fs : List (World → Value → Prop)} {fr : (Nat → Value) → Act}
theorem stepsB_ok {N : Nat} : ∀ (r : List Oper) (i : Nat), StepsB P W Fs fr r i → StepsOk P l N (fun _ w => Below W.heap.size W w) (fun a b => Below a.heap.size a b) (bof Fs) fr r i
  | [], _, _ => trivial
  | o :: r, i, h => ⟨step_plain h.1.1 (fun m u w _ hC hd Q K hK => h.1.2 u w hC hd Q K (fun a' w' ha hb hF => hK a' w' ha (hC.trans (hb.mono hC.size)) hb hF)), stepsB_ok r (i + 1) h.2⟩
theorem wp_region_bel {id : Nat} {Q : Exit → Act → World → Prop} {a0 : Act} (Fs : List (World → Value → Prop)) (hm : P.follows .mixedOrders = true) (hfr : ∀ u, frU u l 0 a0 = fr u) (hd : (dstsApart l && depsBefore l 0) = true)
    (hst : BAll Fs) (hs : StepsB P W Fs fr l 0)
    (hend : ∀ u w', Below W.heap.size W w' → (∀ i, i < l.length → bof Fs i w' (u i)) → Q .normal (fr u) w') : (Code.region id l.toArray true).wp P Q a0 W :=
  wp_region_rel (N := l.length) (fun _ w => Below W.heap.size W w) (fun a b => Below a.heap.size a b) (bof Fs) hm rfl hfr hd (fun i w w' v hb h => bof_stb Fs hst i w w' v hb h)
    ⟨rfl, rfl, rfl, Nat.le_refl _, fun _ _ => rfl⟩ (stepsB_ok l 0 hs) hend
end
theorem stB {P : Program} {W : World} {Fs : List (World → Value → Prop)} {fr : (Nat → Value) → Act} {i : Nat} {o : Oper} (hg : o.guard = none)
    (h : ∀ (u : Nat → Value) (w : World), Below W.heap.size W w → (∀ j, depOn o j = true → bof Fs j w (u j)) →
      ∀ (Q : Exit → Act → World → Prop) (K : Act → World → Prop), (∀ a' w', a' = (fr u).put o.dst (slotOf o.dst a') → Below w.heap.size w w' → bof Fs i w' (slotOf o.dst a') → K a' w') → o.wp P (fr u) w K Q) : StepB P W Fs fr i o := ⟨hg, h⟩
end Go.Proofs.YtkcnbkkgpampaaaDoor
