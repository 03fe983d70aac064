/- Regions that draw their order and turn nothing of before, or end in a store. -/
import Derived.Test.YtgmonbhdgnamnaaDoorRegA
import Derived.Test.YtgmonbhdgnamnaaDoorRd
namespace Go.Proofs.YtgmonbhdgnamnaaDoor
open Go.RowKit
def bof (Fs : List (World → Value → Prop)) (i : Nat) : World → Value → Prop := match Fs[i]? with
  | some f => f
  | none => fun _ _ => True
def BAll : List (World → Value → Prop) → Prop
  | [] => True
  | f :: Fs => BStb f ∧ BAll Fs
theorem bof_stb : ∀ (Fs : List (World → Value → Prop)), BAll Fs → ∀ (i : Nat) (w w' : World) (v : Value), Below w.heap.size w w' → bof Fs i w v → bof Fs i w' v
  | [], _, _, _, _, _, _, h => h
  | _ :: _, hs, 0, w, w', v, hb, h => hs.1 w w' v hb h
  | _ :: Fs, hs, i + 1, w, w', v, hb, h => bof_stb Fs hs.2 i w w' v hb h
def BIs (c : Value) : World → Value → Prop := fun _ v => v = c
theorem bst_is (c : Value) : BStb (BIs c) := fun _ _ _ _ h => h
def BAny : World → Value → Prop := fun _ _ => True
theorem bst_any : BStb BAny := fun _ _ _ _ h => h
def BV (p : Value → Prop) : World → Value → Prop := fun _ v => p v
theorem bst_v (p : Value → Prop) : BStb (BV p) := fun _ _ _ _ h => h
theorem bis {c : Value} {w : World} {v : Value} (h : BIs c w v) : v = c := h
section
variable (P : Program) (W : World) (Fs : List (World → Value → Prop)) (fr : (Nat → Value) → Act)
/-- What is to be shown of operation number i. -/
def StepB (i : Nat) (o : Oper) : Prop :=
  o.guard = none ∧ ∀ (u : Nat → Value) (w : World), Below W.heap.size W w → (∀ j, depOn o j = true → bof Fs j w (u j)) →
    ∀ (Q : Exit → Act → World → Prop) (K : Act → World → Prop), (∀ a' w', a' = (fr u).put o.dst (slotOf o.dst a') → Below w.heap.size w w' → bof Fs i w' (slotOf o.dst a') → K a' w') → o.wp P (fr u) w K Q
def StepsB : List Oper → Nat → Prop
  | [], _ => True
  | o :: r, i => StepB P W Fs fr i o ∧ StepsB r (i + 1)
end
section
variable {P : Program} {l : List Oper} {W : World} {Fs : List (World → Value → Prop)} {fr : (Nat → Value) → Act}
theorem stepsB_ok {N : Nat} : ∀ (r : List Oper) (i : Nat), StepsB P W Fs fr r i → StepsOk P l N (fun _ w => Below W.heap.size W w) (fun a b => Below a.heap.size a b) (bof Fs) fr r i
  | [], _, _ => trivial
  | o :: r, i, h => ⟨step_plain h.1.1 (fun m u w _ hC hd Q K hK => h.1.2 u w hC hd Q K (fun a' w' ha hb hF => hK a' w' ha (hC.trans (hb.mono hC.size)) hb hF)), stepsB_ok r (i + 1) h.2⟩
theorem wp_region_bel {id : Nat} {Q : Exit → Act → World → Prop} {a0 : Act} (Fs : List (World → Value → Prop)) (hm : P.follows .mixedOrders = true) (hfr : ∀ u, frU u l 0 a0 = fr u) (hd : (dstsApart l && depsBefore l 0) = true)
    (hst : BAll Fs) (hs : StepsB P W Fs fr l 0)
    (hend : ∀ u w', Below W.heap.size W w' → (∀ i, i < l.length → bof Fs i w' (u i)) → Q .normal (fr u) w') : (Code.region id l.toArray true).wp P Q a0 W :=
  wp_region_rel (N := l.length) (fun _ w => Below W.heap.size W w) (fun a b => Below a.heap.size a b) (bof Fs) hm rfl hfr hd (fun i w w' v hb h => bof_stb Fs hst i w w' v hb h)
    ⟨rfl, rfl, rfl, Nat.le_refl _, fun _ _ => rfl⟩ (stepsB_ok l 0 hs) hend
end
theorem stB {P : Program} {W : World} {Fs : List (World → Value → Prop)} {fr : (Nat → Value) → Act} {i : Nat} {o : Oper} (hg : o.guard = none)
    (h : ∀ (u : Nat → Value) (w : World), Below W.heap.size W w → (∀ j, depOn o j = true → bof Fs j w (u j)) →
      ∀ (Q : Exit → Act → World → Prop) (K : Act → World → Prop), (∀ a' w', a' = (fr u).put o.dst (slotOf o.dst a') → Below w.heap.size w w' → bof Fs i w' (slotOf o.dst a') → K a' w') → o.wp P (fr u) w K Q) : StepB P W Fs fr i o := ⟨hg, h⟩
section
variable (P : Program) (l : List Oper) (W : World) (Fs : List (World → Value → Prop)) (fr : (Nat → Value) → Act)
def StepG (i : Nat) (o : Oper) : Prop :=
  ∀ (u : Nat → Value) (w : World), Below W.heap.size W w → (∀ j, depOn o j = true → bof Fs j w (u j)) → Region.wanted o (yielded l.toArray (fr u).tmps) = true ∧
    ∀ (Q : Exit → Act → World → Prop) (K : Act → World → Prop), (∀ a' w', a' = (fr u).put o.dst (slotOf o.dst a') → Below w.heap.size w w' → bof Fs i w' (slotOf o.dst a') → K a' w') → o.wp P (fr u) w K Q
def StepsG : List Oper → Nat → Prop
  | [], _ => True
  | o :: r, i => StepG P l W Fs fr i o ∧ StepsG r (i + 1)
end
section
variable {P : Program} {l : List Oper} {W : World} {Fs : List (World → Value → Prop)} {fr : (Nat → Value) → Act}
theorem stepsG_ok {N : Nat} : ∀ (r : List Oper) (i : Nat), StepsG P l W Fs fr r i → StepsOk P l N (fun _ w => Below W.heap.size W w) (fun a b => Below a.heap.size a b) (bof Fs) fr r i
  | [], _, _ => trivial
  | _ :: r, i, h => ⟨fun _ u w _ hC hd => ⟨fun _ Q K hK => (h.1 u w hC hd).2 Q K (fun a' w' ha hb hF => hK a' w' ha (hC.trans (hb.mono hC.size)) hb hF), fun hw => by rw [(h.1 u w hC hd).1] at hw; cases hw⟩, stepsG_ok r (i + 1) h.2⟩
theorem wp_region_belG {id : Nat} {Q : Exit → Act → World → Prop} {a0 : Act} (Fs : List (World → Value → Prop)) (hm : P.follows .mixedOrders = true) (hfr : ∀ u, frU u l 0 a0 = fr u) (hd : (dstsApart l && depsBefore l 0) = true)
    (hst : BAll Fs) (hs : StepsG P l W Fs fr l 0)
    (hend : ∀ u w', Below W.heap.size W w' → (∀ i, i < l.length → bof Fs i w' (u i)) → Q .normal (fr u) w') : (Code.region id l.toArray true).wp P Q a0 W :=
  wp_region_rel (N := l.length) (fun _ w => Below W.heap.size W w) (fun a b => Below a.heap.size a b) (bof Fs) hm rfl hfr hd (fun i w w' v hb h => bof_stb Fs hst i w w' v hb h)
    ⟨rfl, rfl, rfl, Nat.le_refl _, fun _ _ => rfl⟩ (stepsG_ok l 0 hs) hend
end
theorem stG {P : Program} {l : List Oper} {W : World} {Fs : List (World → Value → Prop)} {fr : (Nat → Value) → Act} {i : Nat} {o : Oper}
    (h : ∀ (u : Nat → Value) (w : World), Below W.heap.size W w → (∀ j, depOn o j = true → bof Fs j w (u j)) → Region.wanted o (yielded l.toArray (fr u).tmps) = true ∧
      ∀ (Q : Exit → Act → World → Prop) (K : Act → World → Prop), (∀ a' w', a' = (fr u).put o.dst (slotOf o.dst a') → Below w.heap.size w w' → bof Fs i w' (slotOf o.dst a') → K a' w') → o.wp P (fr u) w K Q) : StepG P l W Fs fr i o := h
/-- The last operation waits for all others. -/
def lastAll (l : List Oper) : Bool := match l.getLast? with
  | some o => (List.range (l.length - 1)).all fun i => depOn o i
  | none => false
section
variable (P : Program) (l : List Oper) (N : Nat) (C : Nat → World → Prop) (E : World → World → Prop) (F G : Nat → World → Value → Prop) (D : World → Prop) (fr : (Nat → Value) → Act)
/-- What is to be shown of operation number i, but the last. -/
def StepS (i : Nat) (o : Oper) : Prop :=
  o.guard = none ∧ ∀ (m : Nat) (u : Nat → Value) (w : World), m < N → C m w → (∀ j, depOn o j = true → F j w (u j)) →
    ∀ (Q : Exit → Act → World → Prop) (K : Act → World → Prop), (∀ a' w', a' = (fr u).put o.dst (slotOf o.dst a') → C (m + 1) w' → E w w' → F i w' (slotOf o.dst a') → K a' w') → o.wp P (fr u) w K Q
/-- What is to be shown of the last. -/
def StepL (i : Nat) (o : Oper) : Prop :=
  o.guard = none ∧ ∀ (m : Nat) (u : Nat → Value) (w : World), m < N → C m w → (∀ j, j < i → F j w (u j)) →
    ∀ (Q : Exit → Act → World → Prop) (K : Act → World → Prop), (∀ a' w', a' = (fr u).put o.dst (slotOf o.dst a') → D w' → (∀ j, j < i → G j w' (u j)) → K a' w') → o.wp P (fr u) w K Q
def StepsS : List Oper → Nat → Prop
  | [], _ => True
  | [o], i => StepL P N C F G D fr i o
  | o :: r, i => StepS P N C E F fr i o ∧ StepsS r (i + 1)
end
section
variable {P : Program} {l : List Oper} {C : Nat → World → Prop} {E : World → World → Prop} {F G : Nat → World → Value → Prop} {D : World → Prop} {fr : (Nat → Value) → Act}
def CS (n : Nat) (C : Nat → World → Prop) (D : World → Prop) (L : List Bool) (w : World) : Prop := L.length = n + 1 ∧ ((L[n]? = some true ∧ D w) ∨ (L[n]? = some false ∧ C (L.count true) w))
def FSk2 (n : Nat) (F G : Nat → World → Value → Prop) (L : List Bool) (i : Nat) (w : World) (v : Value) : Prop := (L[n]? = some true ∧ (i < n → G i w v)) ∨ (L[n]? = some false ∧ F i w v)
theorem count_true_lt : ∀ {L : List Bool} {n : Nat}, L[n]? = some false → L.count true < L.length
  | [], _, h => by simp at h
  | b :: L, 0, h => by
    simp at h
    subst h
    have := List.count_le_length (a := true) (l := L)
    simp only [List.count_cons, List.length_cons]
    simp
    omega
  | b :: L, n + 1, h => by
    have := count_true_lt (L := L) (n := n) (by simpa using h)
    simp only [List.count_cons, List.length_cons]
    split <;> omega
theorem stepsS_ok (n : Nat) (hst : ∀ i w w' v, E w w' → F i w v → F i w' v) {s : Oper} (hl : l[n]? = some s) (hall : ∀ i, i < n → depOn s i = true) : ∀ (r : List Oper) (i : Nat), r.getLast? = some s → i + r.length = n + 1 → StepsS P (n + 1) C E F G D fr r i → StepsOk2 P l (CS n C D) (FSk2 n F G) fr r i
  | [], _, _, _, _ => trivial
  | [o], i, hg, hi, h => by
    simp only [List.length_singleton] at hi
    obtain rfl : i = n := by omega
    refine ⟨fun L u w h1 h2 h3 h4 => ⟨fun _ Q K hK => ?_, fun hw => by simp [Region.wanted, h.1] at hw⟩, trivial⟩
    have hC : C (L.count true) w := by
      rcases h2.2 with h5 | h5
      · rw [h1] at h5; simp at h5
      · exact h5.2
    obtain rfl : o = s := by simpa using hg
    have hnt : L[i]? ≠ some true := by rw [h1]; simp
    have hset : (L.set i true)[i]? = some true := List.getElem?_set_self (List.getElem?_eq_some_iff.1 h1).1
    have hnt2 : ∀ {p : Prop}, ¬ (L[i]? = some true ∧ p) := fun h => hnt h.1
    exact h.2 (L.count true) u w (by have := count_true_lt h1; have := h2.1; omega) hC (fun j hj => (((h3 j (hall j hj)).2).resolve_left hnt2).2) Q K
      (fun a' w' ha hD hG => hK a' w' ha ⟨by rw [List.length_set]; exact h2.1, .inl ⟨hset, hD⟩⟩ (.inl ⟨hset, fun h => absurd h (by omega)⟩) (fun j _ _ _ => .inl ⟨hset, fun h => hG j h⟩))
  | o :: p :: r, i, hg, hi, h => by
    refine ⟨fun L u w h1 h2 h3 h4 => ⟨fun _ Q K hK => ?_, fun hw => by simp [Region.wanted, h.1.1] at hw⟩, stepsS_ok n hst hl hall (p :: r) (i + 1) (by simpa using hg) (by simp only [List.length_cons] at hi ⊢; omega) h.2⟩
    have hin : i < n := by simp only [List.length_cons] at hi; omega
    have hC : L[n]? = some false ∧ C (L.count true) w := by
      rcases h2.2 with h5 | h5
      · have := h4 n s hl h5.1 i (hall i hin)
        rw [h1] at this; cases this
      · exact h5
    have hnt : L[n]? ≠ some true := by rw [hC.1]; simp
    refine h.1.2 (L.count true) u w (by have := count_true_lt hC.1; have := h2.1; omega) hC.2 (fun j hj => (((h3 j hj).2).resolve_left (fun h => hnt h.1)).2) Q K (fun a' w' ha hC' hE hF => ?_)
    refine hK a' w' ha ⟨by rw [List.length_set]; exact h2.1, .inr ⟨by rw [List.getElem?_set_ne (by omega)]; exact hC.1, by rw [count_true_set h1]; exact hC'⟩⟩ (.inr ⟨by rw [List.getElem?_set_ne (by omega)]; exact hC.1, hF⟩) (fun j hj hLj hx => .inr ⟨by rw [List.getElem?_set_ne (by omega)]; exact hC.1, hst j _ _ _ hE (hx.resolve_left (fun h => hnt h.1)).2⟩)
theorem wp_region_last {id : Nat} {Q : Exit → Act → World → Prop} {a0 : Act} {w : World} (C : Nat → World → Prop) (E : World → World → Prop) (F G : Nat → World → Value → Prop) (D : World → Prop) (n : Nat)
    (hm : P.follows .mixedOrders = true) (hn : l.length = n + 1) (hfr : ∀ u, frU u l 0 a0 = fr u) (hd : (dstsApart l && depsBefore l 0) = true) (hla : lastAll l = true)
    (hst : ∀ i w w' v, E w w' → F i w v → F i w' v) (h0 : C 0 { w with drawn := w.drawn + 1 }) (hs : StepsS P (n + 1) C E F G D fr l 0)
    (hend : ∀ u w', D w' → (∀ j, j < n → G j w' (u j)) → Q .normal (fr u) w') : (Code.region id l.toArray true).wp P Q a0 w := by
  obtain ⟨s, hg⟩ : ∃ s, l.getLast? = some s := by
    cases h : l.getLast? with
    | none => rw [List.getLast?_eq_none_iff] at h; rw [h] at hn; simp at hn
    | some s => exact ⟨s, rfl⟩
  have hl : l[n]? = some s := by rw [List.getLast?_eq_getElem?, hn] at hg; simpa using hg
  have hall : ∀ i, i < n → depOn s i = true := by
    intro i hi
    unfold lastAll at hla
    rw [hg] at hla
    exact (List.all_eq_true.1 hla) i (List.mem_range.2 (by omega))
  refine wp_region_rel2 (CS n C D) (FSk2 n F G) hm hfr hd ⟨by simp [hn], .inr ⟨by simp [hn], by rw [show (List.replicate l.length false).count true = 0 from by simp [List.count_replicate]]; exact h0⟩⟩ (stepsS_ok n hst hl hall l 0 hg (by omega) hs) (fun L u w' hL hC hF => hend u w' ?_ (fun j hj => ?_))
  · rcases hC.2 with h | h
    · exact h.2
    · have := hL n (by omega)
      rw [h.1] at this; simp at this
  · rcases hF j (by omega) with h | h
    · exact h.2 hj
    · have := hL n (by omega)
      rw [h.1] at this; simp at this
end
theorem stSb {P : Program} {W : World} {N : Nat} {Fs : List (World → Value → Prop)} {fr : (Nat → Value) → Act} {i : Nat} {o : Oper} (hg : o.guard = none)
    (h : ∀ (u : Nat → Value) (w : World), Below W.heap.size W w → (∀ j, depOn o j = true → bof Fs j w (u j)) →
      ∀ (Q : Exit → Act → World → Prop) (K : Act → World → Prop), (∀ a' w', a' = (fr u).put o.dst (slotOf o.dst a') → Below w.heap.size w w' → bof Fs i w' (slotOf o.dst a') → K a' w') → o.wp P (fr u) w K Q) :
    StepS P N (fun _ w => Below W.heap.size W w) (fun a b => Below a.heap.size a b) (bof Fs) fr i o :=
  ⟨hg, fun m u w hm hC hd Q K hK => h u w hC hd Q K (fun a' w' ha hb hF => hK a' w' ha (hC.trans (hb.mono hC.size)) hb hF)⟩
/-- What the reader's moves keep. -/
def MStb (R : Nat) (p : World → Value → Prop) : Prop := ∀ w w' v, Mv R w.heap.size w w' → p w v → p w' v
def MAll (R : Nat) : List (World → Value → Prop) → Prop
  | [] => True
  | f :: Fs => MStb R f ∧ MAll R Fs
theorem bof_mst {R : Nat} : ∀ (Fs : List (World → Value → Prop)), MAll R Fs → ∀ (i : Nat) (w w' : World) (v : Value), Mv R w.heap.size w w' → bof Fs i w v → bof Fs i w' v
  | [], _, _, _, _, _, _, h => h
  | _ :: _, hs, 0, w, w', v, hb, h => hs.1 w w' v hb h
  | _ :: Fs, hs, i + 1, w, w', v, hb, h => bof_mst Fs hs.2 i w w' v hb h
theorem mst_is {R : Nat} (c : Value) : MStb R (BIs c) := fun _ _ _ _ h => h
theorem mst_v {R : Nat} (p : Value → Prop) : MStb R (BV p) := fun _ _ _ _ h => h
/-- A small list of numbers, clear of the reader. -/
def FLt (R n : Nat) (lo hi : Int) : World → Value → Prop := fun w v => ∃ b, v = .slice (some ⟨b, 0, none⟩) n n ∧ b < w.heap.size ∧ b ≠ R ∧ ∀ j, j < n → ∃ x, w.cell? ⟨b, j, none⟩ = some (.int .i64 x) ∧ lo ≤ x ∧ x ≤ hi
/-- An address of such a number. -/
def FAd (R : Nat) (lo hi : Int) : World → Value → Prop := fun w v => ∃ b o, v = .pointer (some ⟨b, o, none⟩) ∧ b < w.heap.size ∧ b ≠ R ∧ ∃ x, w.cell? ⟨b, o, none⟩ = some (.int .i64 x) ∧ lo ≤ x ∧ x ≤ hi
theorem mst_lt {R n : Nat} {lo hi : Int} : MStb R (FLt R n lo hi) := fun _ _ _ hm ⟨b, h1, h2, h3, h4⟩ =>
  ⟨b, h1, Nat.lt_of_lt_of_le h2 hm.size, h3, fun j hj => let ⟨x, g1, g2⟩ := h4 j hj; ⟨x, (mvC hm b h2 h3 j).trans g1, g2⟩⟩
theorem mst_ad {R : Nat} {lo hi : Int} : MStb R (FAd R lo hi) := fun _ _ _ hm ⟨b, o, h1, h2, h3, x, g1, g2⟩ =>
  ⟨b, o, h1, Nat.lt_of_lt_of_le h2 hm.size, h3, x, (mvC hm b h2 h3 o).trans g1, g2⟩
theorem nameMv {R B : Nat} {w w' : World} (_ : Mv R B w w') : ∃ x : World, x = w' := ⟨w', rfl⟩
/-- The reader at a place not far behind q0, all else of W as before. -/
def CM (R : Nat) (bs : List Int) (q0 k : Nat) (W : World) (m : Nat) (w : World) : Prop := ∃ q, RdAt R bs w q ∧ q ≤ q0 + k * m ∧ Mv R W.heap.size W w
theorem CM.same {R : Nat} {bs : List Int} {q0 k : Nat} {W : World} {m : Nat} {w : World} (h : CM R bs q0 k W m w) : CM R bs q0 k W (m + 1) w :=
  let ⟨q, h1, h2, h3⟩ := h; ⟨q, h1, by rw [Nat.mul_succ]; omega, h3⟩
theorem CM.mv {R : Nat} {bs : List Int} {q0 k : Nat} {W : World} {m : Nat} {w w' : World} (h : CM R bs q0 k W m w) {q : Nat} (hr : RdAt R bs w' q) (hq : q ≤ q0 + k * m + k) (hm : Mv R w.heap.size w w') : CM R bs q0 k W (m + 1) w' := by
  obtain ⟨q', _, _, h3⟩ := h
  exact ⟨q, hr, by rw [Nat.mul_succ]; omega, h3.trans (hm.mono h3.size)⟩
theorem CM.below {R : Nat} {bs : List Int} {q0 k : Nat} {W : World} {m : Nat} {w w' : World} (h : CM R bs q0 k W m w) (hb : Below w.heap.size w w') : CM R bs q0 k W (m + 1) w' := by
  obtain ⟨q, h1, h2, h3⟩ := h
  exact ⟨q, h1.below hb, by rw [Nat.mul_succ]; omega, h3.trans ((Mv.of_below hb).mono h3.size)⟩
theorem CM.start {R : Nat} {bs : List Int} {q0 k : Nat} {W : World} (h : RdAt R bs W q0) : CM R bs q0 k W 0 { W with drawn := W.drawn + 1 } :=
  ⟨q0, ⟨h.lt, h.code, h.place, h.frz⟩, by omega, ⟨rfl, rfl, rfl, Nat.le_refl _, fun _ _ _ => rfl⟩⟩
theorem stSm {P : Program} {W : World} {N k q0 R : Nat} {bs : List Int} {Fs : List (World → Value → Prop)} {fr : (Nat → Value) → Act} {i : Nat} {o : Oper} (hg : o.guard = none)
    (h : ∀ (m : Nat) (u : Nat → Value) (w : World), m < N → CM R bs q0 k W m w → (∀ j, depOn o j = true → bof Fs j w (u j)) →
      ∀ (Q : Exit → Act → World → Prop) (K : Act → World → Prop), (∀ a' w', a' = (fr u).put o.dst (slotOf o.dst a') → CM R bs q0 k W (m + 1) w' → Mv R w.heap.size w w' → bof Fs i w' (slotOf o.dst a') → K a' w') → o.wp P (fr u) w K Q) :
    StepS P N (CM R bs q0 k W) (fun a b => Mv R a.heap.size a b) (bof Fs) fr i o := ⟨hg, h⟩
section
variable {P : Program} {l : List Oper} {fr : (Nat → Value) → Act}
/-- A region of a drawing function: the reader moves, small blocks are made, nothing of before is turned. -/
theorem wp_region_mv {id : Nat} {Q : Exit → Act → World → Prop} {a0 : Act} {W : World} {R : Nat} {bs : List Int} {q0 : Nat} (k : Nat) (Fs : List (World → Value → Prop)) (hm : P.follows .mixedOrders = true) (hr : RdAt R bs W q0) (hfr : ∀ u, frU u l 0 a0 = fr u) (hd : (dstsApart l && depsBefore l 0) = true)
    (hst : MAll R Fs) (hs : StepsOk P l l.length (CM R bs q0 k W) (fun a b => Mv R a.heap.size a b) (bof Fs) fr l 0)
    (hend : ∀ u w', CM R bs q0 k W l.length w' → (∀ i, i < l.length → bof Fs i w' (u i)) → Q .normal (fr u) w') : (Code.region id l.toArray true).wp P Q a0 W :=
  wp_region_rel (N := l.length) (CM R bs q0 k W) (fun a b => Mv R a.heap.size a b) (bof Fs) hm rfl hfr hd (fun i w w' v hb h => bof_mst Fs hst i w w' v hb h) (CM.start hr) hs hend
end
end Go.Proofs.YtgmonbhdgnamnaaDoor
