/- Unfolding: a list grows, and what the others keep. -/
import Derived.Test.YtfcbbahlhjdefaaDoorUfP
import Derived.Test.YtfcbbahlhjdefaaDoorDxAJ
import Derived.Test.YtfcbbahlhjdefaaDoorRuP
import Derived.Test.YtfcbbahlhjdefaaDoorCuW
import Derived.Test.YtfcbbahlhjdefaaDoorRgI
import Derived.Test.YtfcbbahlhjdefaaDoorRdRs
import Derived.Test.YtfcbbahlhjdefaaDoorRgA
import Derived.Test.YtfcbbahlhjdefaaDoorDt
import Derived.Test.YtfcbbahlhjdefaaDoorRgCL
import Derived.Test.YtfcbbahlhjdefaaDoorFnX
import Derived.Test.YtfcbbahlhjdefaaDoorRgT
import Derived.Test.YtfcbbahlhjdefaaDoorRgX
import Derived.Test.YtfcbbahlhjdefaaDoorFmZ
/- What unfolding means, plainly: for every packet the boxes that have it are counted. -/
namespace Go.Proofs.YtfcbbahlhjdefaaDoor
open Go.RowKit
def tholds (t : Te) (p : Pk) : Bool := inB (p.fld t.fld.toNat) t.lo t.hi != t.not
def thold (ts : List Te) (p : Pk) : Bool := ts.all (fun t => tholds t p)
/-! How a packet goes through the chains. -/
def jgo (rec : Nat → Option Bool) (p : Pk) : List Ru → Option Bool
  | [] => none
  | r :: rs =>
    if thold r.ts p = false then jgo rec p rs
    else if r.act = 1 then some true
    else if r.act = 2 then some false
    else if r.act = 4 then none
    else if r.act = 3 then (match rec r.ch.toNat with
      | some b => some b
      | none => jgo rec p rs)
    else jgo rec p rs
def jwalk (cs : List (List Ru)) (p : Pk) : Nat → Nat → Option Bool
  | 0, _ => none
  | f + 1, c => jgo (jwalk cs p f) p (cs.getD c [])
/-! Without decisions. -/
def quiet1 (r : Ru) : Ru := if r.act = 1 ∨ r.act = 2 then { r with act := 5 } else r
def quietL (l : List Ru) : List Ru := l.map quiet1
def quiet (cs : List (List Ru)) : List (List Ru) := cs.map quietL
theorem ufGo_quiet {rec : Nat → List Bx → List Ft → UfR} (hrec : ∀ c i o i' o', rec c i o = some (i', o') → o' = o) :
    ∀ (rs : List Ru) (inn left : List Bx) (out : List Ft) (i : List Bx) (o : List Ft), (∀ r, r ∈ rs → r.act ≠ 1 ∧ r.act ≠ 2) → ufGo rec rs inn left out = some (i, o) → o = out
  | [], inn, left, out, i, o, _, h => by
    unfold ufGo at h
    split at h
    · cases h; rfl
    · cases h
  | r :: rs, inn, left, out, i, o, hq, h => by
    unfold ufGo at h
    split at h
    · split at h
      · cases h
      · rename_i i1 l1 o1 ha
        split at h
        · have e := ufGo_quiet hrec rs _ _ _ _ _ (fun x hx => hq x (List.mem_cons_of_mem _ hx)) h
          obtain ⟨n1, n2⟩ := hq r List.mem_cons_self
          unfold ufAct at ha
          rw [if_neg (by rintro (e | e) <;> contradiction)] at ha
          split at ha
          · cases ha; exact e
          · split at ha
            · cases hr : rec r.ch.toNat (ufit inn (tbox r.ts)) out with
              | none => rw [hr] at ha; cases ha
              | some q =>
                rw [hr] at ha
                cases ha
                rw [e]
                exact hrec _ _ _ _ _ hr
            · cases ha; exact e
        · cases h
    · cases h
theorem quiet_acts {cs : List (List Ru)} {c : Nat} : ∀ r, r ∈ (quiet cs).getD c [] → r.act ≠ 1 ∧ r.act ≠ 2 := by
  intro r hr
  have hm := getD_mem hr
  unfold quiet at hm
  obtain ⟨l, -, hl⟩ := List.mem_map.1 hm
  unfold quiet at hr
  rw [← hl] at hr
  unfold quietL at hr
  obtain ⟨s, -, rfl⟩ := List.mem_map.1 hr
  unfold quiet1
  split
  · simp
  · rename_i h
    exact ⟨fun e => h (.inl e), fun e => h (.inr e)⟩
theorem ufWalk_quiet {cs : List (List Ru)} : ∀ (f c : Nat) (inn : List Bx) (out : List Ft) (i : List Bx) (o : List Ft), ufWalk (quiet cs) f c inn out = some (i, o) → o = out
  | 0, _, _, _, _, _, h => by cases h
  | f + 1, c, inn, out, i, o, h => by
    unfold ufWalk at h
    exact ufGo_quiet (fun c i o i' o' h => ufWalk_quiet f c i o i' o' h) _ _ _ _ _ _ quiet_acts h
theorem jgo_quiet {rec : Nat → Option Bool} {p : Pk} (hrec : ∀ c, rec c = none) : ∀ (rs : List Ru), (∀ r, r ∈ rs → r.act ≠ 1 ∧ r.act ≠ 2) → jgo rec p rs = none
  | [], _ => rfl
  | r :: rs, h => by
    have ih := jgo_quiet hrec (p := p) rs (fun x hx => h x (List.mem_cons_of_mem _ hx))
    obtain ⟨n1, n2⟩ := h r List.mem_cons_self
    unfold jgo
    rw [if_neg n1, if_neg n2, hrec]
    simp only [ih]
    simp
theorem jwalk_quiet {cs : List (List Ru)} {p : Pk} : ∀ (f c : Nat), jwalk (quiet cs) p f c = none
  | 0, _ => rfl
  | f + 1, c => by
    unfold jwalk
    exact jgo_quiet (fun c => jwalk_quiet f c) _ quiet_acts
end Go.Proofs.YtfcbbahlhjdefaaDoor
/- The judgement by a stack of places, plainly. -/
namespace Go.Proofs.YtfcbbahlhjdefaaDoor
open Go.RowKit
theorem mem_callsAt {cs : List (List Ru)} (hv : ∀ c r, r ∈ cs.getD c [] → r.ok = true) {c : Nat} {r : Ru} (hr : r ∈ cs.getD c []) (h3 : r.act = 3) : r.ch.toNat ∈ callsAt cs c := by
  have h := hv c r hr
  unfold Ru.ok at h
  rw [h3] at h
  simp [inB] at h
  exact callsAt_mem.2 ⟨by omega, r, hr, h3, by omega⟩
theorem jgo_eq {F G : Nat → Option Bool} {p : Pk} : ∀ (rs : List Ru), (∀ r, r ∈ rs → r.act = 3 → F r.ch.toNat = G r.ch.toNat) → jgo F p rs = jgo G p rs
  | [], _ => rfl
  | r :: rs, h => by
    have ih := jgo_eq (p := p) rs (fun x hx => h x (List.mem_cons_of_mem _ hx))
    unfold jgo
    rw [ih]
    by_cases h3 : r.act = 3
    · rw [h r List.mem_cons_self h3]
    · simp only [if_neg h3]
/-- More fuel makes no difference. -/
theorem jwalk_stable {cs : List (List Ru)} {p : Pk} (hv : ∀ c r, r ∈ cs.getD c [] → r.ok = true) : ∀ {f c : Nat}, Ht cs f c → jwalk cs p (f + 1) c = jwalk cs p f c
  | 0, _, h => h.elim
  | f + 1, c, h => by
    show jgo (jwalk cs p (f + 1)) p _ = jgo (jwalk cs p f) p _
    exact jgo_eq _ (fun r hr h3 => jwalk_stable hv (h _ (mem_callsAt hv hr h3)))
/-- How many turns the rules of a chain take. -/
def tgo (rec : Nat → Nat) : List Ru → Nat
  | [] => 1
  | r :: rs => 1 + (if r.act = 3 then rec r.ch.toNat else 0) + tgo rec rs
def tw (cs : List (List Ru)) : Nat → Nat → Nat
  | 0, _ => 0
  | f + 1, c => tgo (tw cs f) (cs.getD c [])
theorem tgo_eq {F G : Nat → Nat} : ∀ (rs : List Ru), (∀ r, r ∈ rs → r.act = 3 → F r.ch.toNat = G r.ch.toNat) → tgo F rs = tgo G rs
  | [], _ => rfl
  | r :: rs, h => by
    have ih := tgo_eq rs (fun x hx => h x (List.mem_cons_of_mem _ hx))
    unfold tgo
    rw [ih]
    by_cases h3 : r.act = 3
    · rw [h r List.mem_cons_self h3]
    · simp only [if_neg h3]
theorem tw_stable {cs : List (List Ru)} (hv : ∀ c r, r ∈ cs.getD c [] → r.ok = true) : ∀ {f c : Nat}, Ht cs f c → tw cs (f + 1) c = tw cs f c
  | 0, _, h => h.elim
  | f + 1, c, h => by
    show tgo (tw cs (f + 1)) _ = tgo (tw cs f) _
    exact tgo_eq _ (fun r hr h3 => tw_stable hv (h _ (mem_callsAt hv hr h3)))
/-- What is left to be said by a stack of places, the top first. -/
def jval (cs : List (List Ru)) (p : Pk) (F : Nat) : List (Nat × Nat) → Option Bool
  | [] => none
  | (c, n) :: st => match jgo (jwalk cs p F) p ((cs.getD c []).drop n) with
    | some b => some b
    | none => jval cs p F st
def jtime (cs : List (List Ru)) (F : Nat) : List (Nat × Nat) → Nat
  | [] => 0
  | (c, n) :: st => tgo (tw cs F) ((cs.getD c []).drop n) + jtime cs F st
/-- One turn: what stands on the stack behind it, or the decision. -/
def jturn (cs : List (List Ru)) (p : Pk) (c n : Nat) (st : List (Nat × Nat)) : List (Nat × Nat) × Option Bool :=
  match (cs.getD c [])[n]? with
  | none => (st, none)
  | some r =>
    if thold r.ts p = false then ((c, n + 1) :: st, none)
    else if r.act = 1 then ((c, n + 1) :: st, some true)
    else if r.act = 2 then ((c, n + 1) :: st, some false)
    else if r.act = 4 then (st, none)
    else if r.act = 3 then ((r.ch.toNat, 0) :: (c, n + 1) :: st, none)
    else ((c, n + 1) :: st, none)
theorem jturn_val {cs : List (List Ru)} {p : Pk} {F c n : Nat} {st : List (Nat × Nat)} (hv : ∀ c r, r ∈ cs.getD c [] → r.ok = true) (hc : Ht cs (F + 1) c) :
    jval cs p F ((c, n) :: st) = (match (jturn cs p c n st).2 with | some b => some b | none => jval cs p F (jturn cs p c n st).1) ∧
    jtime cs F (jturn cs p c n st).1 < jtime cs F ((c, n) :: st) := by
  unfold jturn
  cases hr : (cs.getD c [])[n]? with
  | none =>
    have hd : (cs.getD c []).drop n = [] := List.drop_eq_nil_of_le (List.getElem?_eq_none_iff.1 hr)
    refine ⟨?_, ?_⟩
    · show (match jgo (jwalk cs p F) p ((cs.getD c []).drop n) with | some b => some b | none => jval cs p F st) = _
      rw [hd]; rfl
    · show jtime cs F st < tgo (tw cs F) ((cs.getD c []).drop n) + jtime cs F st
      rw [hd]; simp [tgo]
  | some r =>
    have hl := (List.getElem?_eq_some_iff.1 hr).1
    have hd : (cs.getD c []).drop n = r :: (cs.getD c []).drop (n + 1) := by
      rw [List.drop_eq_getElem_cons hl, (List.getElem?_eq_some_iff.1 hr).2]
    have hm : r ∈ cs.getD c [] := List.mem_of_getElem? hr
    have hjv : jval cs p F ((c, n) :: st) = (match jgo (jwalk cs p F) p (r :: (cs.getD c []).drop (n + 1)) with | some b => some b | none => jval cs p F st) := by
      show (match jgo (jwalk cs p F) p ((cs.getD c []).drop n) with | some b => some b | none => jval cs p F st) = _
      rw [hd]
    have hjt : jtime cs F ((c, n) :: st) = 1 + (if r.act = 3 then tw cs F r.ch.toNat else 0) + tgo (tw cs F) ((cs.getD c []).drop (n + 1)) + jtime cs F st := by
      show tgo (tw cs F) ((cs.getD c []).drop n) + jtime cs F st = _
      rw [hd]; rfl
    have hnx : jval cs p F ((c, n + 1) :: st) = (match jgo (jwalk cs p F) p ((cs.getD c []).drop (n + 1)) with | some b => some b | none => jval cs p F st) := rfl
    have hnt : jtime cs F ((c, n + 1) :: st) = tgo (tw cs F) ((cs.getD c []).drop (n + 1)) + jtime cs F st := rfl
    rw [hjv, hjt]
    simp only [jgo]
    by_cases ht : thold r.ts p = false
    · simp only [if_pos ht]
      exact ⟨hnx.symm, by rw [hnt]; omega⟩
    · simp only [if_neg ht]
      by_cases h1 : r.act = 1
      · simp only [if_pos h1]
        exact ⟨trivial, by rw [hnt]; omega⟩
      · simp only [if_neg h1]
        by_cases h2 : r.act = 2
        · simp only [if_pos h2]
          exact ⟨trivial, by rw [hnt]; omega⟩
        · simp only [if_neg h2]
          by_cases h4 : r.act = 4
          · simp only [if_pos h4]
            exact ⟨trivial, by omega⟩
          · simp only [if_neg h4]
            by_cases h3 : r.act = 3
            · have hch := hc _ (mem_callsAt hv hm h3)
              have e1 : jgo (jwalk cs p F) p ((cs.getD r.ch.toNat []).drop 0) = jwalk cs p F r.ch.toNat := jwalk_stable hv hch
              have e2 : tgo (tw cs F) ((cs.getD r.ch.toNat []).drop 0) = tw cs F r.ch.toNat := tw_stable hv hch
              simp only [if_pos h3]
              refine ⟨?_, ?_⟩
              · show _ = (match jgo (jwalk cs p F) p ((cs.getD r.ch.toNat []).drop 0) with | some b => some b | none => jval cs p F ((c, n + 1) :: st))
                rw [e1, hnx]
                cases jwalk cs p F r.ch.toNat <;> rfl
              · show tgo (tw cs F) ((cs.getD r.ch.toNat []).drop 0) + jtime cs F ((c, n + 1) :: st) < _
                rw [e2, hnt]; omega
            · simp only [if_neg h3]
              exact ⟨hnx.symm, by rw [hnt]; omega⟩
theorem jval_start {cs : List (List Ru)} {p : Pk} {F : Nat} (hv : ∀ c r, r ∈ cs.getD c [] → r.ok = true) (h : Ht cs F 0) : jval cs p F [(0, 0)] = jwalk cs p F 0 := by
  have e1 : jgo (jwalk cs p F) p ((cs.getD 0 []).drop 0) = jwalk cs p F 0 := jwalk_stable hv h
  show (match jgo (jwalk cs p F) p ((cs.getD 0 []).drop 0) with | some b => some b | none => none) = _
  rw [e1]
  cases jwalk cs p F 0 <;> rfl
/-- How many of five chains are less than k deep. -/
noncomputable def htn (cs : List (List Ru)) (k : Nat) : Nat := (List.range 5).countP (fun c => @decide (Ht cs k c) (Classical.propDecidable _))
theorem htn_lt {cs : List (List Ru)} {k c : Nat} (hc : c < 5) (h : Ht cs (k + 1) c) (hn : ¬ Ht cs k c) : htn cs k < htn cs (k + 1) := by
  unfold htn
  have aux : ∀ (l : List Nat), c ∈ l → l.countP (fun c => @decide (Ht cs k c) (Classical.propDecidable _)) < l.countP (fun c => @decide (Ht cs (k + 1) c) (Classical.propDecidable _)) := by
    intro l
    have mono : ∀ (l : List Nat), l.countP (fun c => @decide (Ht cs k c) (Classical.propDecidable _)) ≤ l.countP (fun c => @decide (Ht cs (k + 1) c) (Classical.propDecidable _)) := fun l =>
      List.countP_mono_left (fun x _ hx => by
        simp only [decide_eq_true_eq] at hx ⊢
        exact hx.mono (by omega))
    induction l with
    | nil => intro h; cases h
    | cons x l ih =>
      intro hm
      rw [List.countP_cons, List.countP_cons]
      rcases List.mem_cons.1 hm with e | e
      · subst e
        have := mono l
        simp [h, hn]
        omega
      · have := ih e
        by_cases hx : Ht cs k x
        · have hx2 : Ht cs (k + 1) x := hx.mono (by omega)
          simp [hx, hx2]; exact this
        · by_cases hx2 : Ht cs (k + 1) x
          · simp [hx, hx2]; omega
          · simp [hx, hx2]; exact this
  exact aux _ (List.mem_range.2 hc)
theorem ht_six {cs : List (List Ru)} {f c : Nat} (h : Ht cs f c) (hc : c < 5) : Ht cs 6 c := by
  have key : ∀ k, k ≤ htn cs k ∨ ∀ c, c < 5 → Ht cs (k + 1) c → Ht cs k c := by
    intro k
    induction k with
    | zero => exact .inl (Nat.zero_le _)
    | succ k ih =>
      by_cases hs : ∀ c, c < 5 → Ht cs (k + 1) c → Ht cs k c
      · exact .inr (fun c _ h x hx => hs x (callsAt_mem.1 hx).1 (h x hx))
      · rcases ih with h1 | h1
        · have : ∃ c, c < 5 ∧ Ht cs (k + 1) c ∧ ¬ Ht cs k c := by
            apply Classical.byContradiction
            intro hno
            exact hs (fun c h2 h3 => Classical.byContradiction (fun h4 => hno ⟨c, h2, h3, h4⟩))
          obtain ⟨c, h2, h3, h4⟩ := this
          have := htn_lt h2 h3 h4
          exact .inl (by omega)
        · exact absurd h1 hs
  have h6 : ∀ c, c < 5 → Ht cs 7 c → Ht cs 6 c := by
    rcases key 6 with h1 | h1
    · have : htn cs 6 ≤ 5 := by unfold htn; exact Nat.le_trans List.countP_le_length (by simp)
      omega
    · exact h1
  have hall : ∀ j c, c < 5 → Ht cs (6 + j) c → Ht cs 6 c := by
    intro j
    induction j with
    | zero => exact fun c _ h => h
    | succ j ih => exact fun c h1 h2 => h6 c h1 (fun x hx => ih x (callsAt_mem.1 hx).1 (h2 x hx))
  exact hall f c hc (h.mono (by omega))
/-- The places lie one below the other in the calls. -/
def StOk (cs : List (List Ru)) (F : Nat) : List (Nat × Nat) → Prop
  | [] => True
  | x :: r => Ht cs (F + 1 - r.length) x.1 ∧ x.1 < cs.length ∧ x.2 ≤ (cs.getD x.1 []).length ∧ StOk cs F r
theorem StOk.len {cs : List (List Ru)} {F : Nat} : ∀ {st : List (Nat × Nat)}, StOk cs F st → st.length ≤ F + 1
  | [], _ => Nat.zero_le _
  | x :: r, ⟨h1, _, _, _⟩ => by
    by_cases h : r.length ≤ F
    · simp only [List.length_cons]; omega
    · rw [show F + 1 - r.length = 0 by omega] at h1
      exact h1.elim
theorem jturn_ok {cs : List (List Ru)} {p : Pk} {F c n : Nat} {st : List (Nat × Nat)} (hv : ∀ c r, r ∈ cs.getD c [] → r.ok = true) (hc : CallsIn cs) (h : StOk cs F ((c, n) :: st)) : StOk cs F (jturn cs p c n st).1 := by
  obtain ⟨h1, h2, h3, h4⟩ := h
  unfold jturn
  cases hr : (cs.getD c [])[n]? with
  | none => exact h4
  | some r =>
    have hl := (List.getElem?_eq_some_iff.1 hr).1
    have hm : r ∈ cs.getD c [] := List.mem_of_getElem? hr
    have hn : StOk cs F ((c, n + 1) :: st) := ⟨h1, h2, hl, h4⟩
    dsimp only
    split
    · exact hn
    · split
      · exact hn
      · split
        · exact hn
        · split
          · exact h4
          · split
            · rename_i h3
              have hlen : st.length ≤ F := by
                have := StOk.len hn
                simp only [List.length_cons] at this
                omega
              have h1' : Ht cs ((F - st.length) + 1) c := by rw [show F - st.length + 1 = F + 1 - st.length by omega]; exact h1
              have hch := h1' _ (mem_callsAt hv hm h3)
              obtain ⟨g1, g2, g3⟩ := hc _ (getD_mem hm) r hm h3
              refine ⟨?_, by simp only; omega, Nat.zero_le _, hn⟩
              simp only [List.length_cons]
              rw [show F + 1 - (st.length + 1) = F - st.length by omega]
              exact hch
            · exact hn
end Go.Proofs.YtfcbbahlhjdefaaDoor
/- Merging of boxes and of rules, shortening: plain laws. -/
namespace Go.Proofs.YtfcbbahlhjdefaaDoor
open Go.RowKit
theorem fvalid_all {fs : List Ft} : fvalid fs = true ↔ fs.length ≤ 60 ∧ ∀ f ∈ fs, bvalid f.box = true := by
  unfold fvalid
  rw [Bool.and_eq_true, decide_eq_true_eq, List.all_eq_true]
end Go.Proofs.YtfcbbahlhjdefaaDoor
/- Parts of all packets, witnesses, newly open packets: plain definitions and laws. -/
namespace Go.Proofs.YtfcbbahlhjdefaaDoor
open Go.RowKit
end Go.Proofs.YtfcbbahlhjdefaaDoor
/- Parts of all packets: the program's walk. -/
namespace Go.Proofs.YtfcbbahlhjdefaaDoor
open Go.RowKit
theorem SpV.highX {X : Nat → Prop} {lo : Nat} {w : World} {v : Value} {xs : List Sp} (h : Sps lo w v xs) (hX : ∀ k, X k → k < lo) : SpV X w v xs := by
  refine ⟨h.mono (Nat.zero_le _), fun q n c e hne hp => ?_⟩
  obtain ⟨a, cap, rfl, h1, h2, hx⟩ := h
  obtain ⟨x, hx0⟩ : ∃ x, xs[0]? = some x := ⟨_, List.getElem?_eq_getElem (List.length_pos_iff.2 hne)⟩
  obtain ⟨b, o, ha, h3, h4, hc⟩ := hx 0 x hx0
  subst ha
  obtain ⟨e1, -, -⟩ := Value.slice.inj e
  cases e1
  have := hX _ hp
  simp only at this
  omega
/-- Boxes are put behind boxes. -/
theorem nx_append {X : Nat → Prop} {lo : Nat} {w : World} {v vx : Value} {bs cs : List Bx} (ty : TypeId) (ho : NX X lo w v bs) (hs : IssX (fun k => some k = v.ownBlock ∨ X k) w vx cs) (hb : bs.length + cs.length ≤ 1000000) (hlo : lo ≤ w.heap.size) :
    ∃ v' w', (Builtin.append_ #[81, 81] ty #[v, vx]).run Tryd.prog w = .ok v' w' ∧ NX X lo w' v' (bs ++ cs) ∧ w.grownBy w' v.ownBlock ∧ ∀ z, v'.ownBlock = some z → v.ownBlock = some z ∨ z = w.heap.size := by
  obtain ⟨i0, hi, hy0, hy1, hy2⟩ := info_parts infoSd
  obtain ⟨vs, g1, g2⟩ := ho
  obtain ⟨ws, k1, k2⟩ := hs
  have e1 := g2.1
  have e2 := k2.1
  have hone : ∀ u ∈ ws.flatMap R4.enc, u.oneCell' = true := fun u hu => by
    obtain ⟨r, hr, hu2⟩ := List.mem_flatMap.1 hu
    obtain ⟨k', hk'⟩ := List.getElem?_of_mem hr
    obtain ⟨bx, hbx⟩ : ∃ bx, cs[k']? = some bx := ⟨_, List.getElem?_eq_getElem (by rw [← e2]; exact (List.getElem?_eq_some_iff.1 hk').1)⟩
    have hall := k2.2 k' r bx hk' hbx
    obtain ⟨F0, G0, H0, F1, G1, H1, F2, G2, H2, F3, G3, H3, h0, h1, h2, h3⟩ := sl4_form (hall.mono (fun _ _ g => g.1))
    simp only [R4.enc, List.mem_cons, List.not_mem_nil, or_false] at hu2
    rcases hu2 with rfl | rfl | rfl | rfl
    · rw [h0]; rfl
    · rw [h1]; rfl
    · rw [h2]; rfl
    · rw [h3]; rfl
  obtain ⟨v', w', hrun, hown, hgr, hat⟩ := own_append_all (sz := 4) (enc := R4.enc) (by omega) (fun _ => rfl) (P := Tryd.prog) 81 ty 84 i0 _ 96 Tryd.underlying81 hi hy0 hy1 hy2 rfl hone g1 (SlFr.at k1) (by omega) (by simp only [maxLen]; omega) hlo
  exact ⟨v', w', hrun, NX.push (H := w.heap.size) k2 (grown_self hgr) hat (Nat.le_refl _) g2 hown, hgr, hat⟩
theorem NX.keepX {X X' : Nat → Prop} {lo : Nat} {w w' : World} {v : Value} {bs : List Bx} (h : NX X lo w v bs) (hz : w.heap.size ≤ w'.heap.size) (hk : ∀ k, k < w.heap.size → some k = v.ownBlock ∨ ¬ X k → w'.heap[k]? = w.heap[k]?) (hX : ∀ k, k < w.heap.size → ¬ X k → ¬ X' k) : NX X' lo w' v bs := by
  obtain ⟨rs, h1, h2⟩ := h
  refine ⟨rs, OwnSl.keepB h1 (fun g g1 _ g3 => hk g g3 (.inl g1.symm)), h2.mono (fun _ _ g => (All2.mono g (fun _ _ q => q.keep hz (fun k k1 k2 => ⟨hk k k1 (.inr (fun e => k2 (.inr e))), fun e => ?_⟩)) : All2 _ _ _))⟩
  rcases e with e | e
  · exact k2 (.inl e)
  · exact hX k k1 (fun e' => k2 (.inr e')) e
theorem NX.lt {X : Nat → Prop} {lo : Nat} {w : World} {v : Value} {bs : List Bx} (h : NX X lo w v bs) : ∀ z, v.ownBlock = some z → lo ≤ z ∧ z < w.heap.size := by
  obtain ⟨rs, h1, _⟩ := h
  exact fun z hz => World.ownsRow.lt h1 z hz
end Go.Proofs.YtfcbbahlhjdefaaDoor
/- Blocks of one cell: a box by itself. -/
namespace Go.Proofs.YtfcbbahlhjdefaaDoor
open Go.RowKit
end Go.Proofs.YtfcbbahlhjdefaaDoor
/- Rules in a list of the call's own under way. -/
namespace Go.Proofs.YtfcbbahlhjdefaaDoor
open Go.RowKit
end Go.Proofs.YtfcbbahlhjdefaaDoor
/- Unfolding: lists under way and what the writes keep of them. -/
namespace Go.Proofs.YtfcbbahlhjdefaaDoor
open Go.RowKit
/-- What may be turned: block P, and the block in which the list ov lies. -/
def ZS (P : Nat) (ov : Value) (Y : Nat → Prop) (k : Nat) : Prop := k = P ∨ some k = ov.ownBlock ∨ Y k
def Tw (P : Nat) (ov ov' : Value) (w w' : World) : Prop := w.heap.size ≤ w'.heap.size ∧ ∀ k, k < w.heap.size → k ≠ P → some k ≠ ov.ownBlock → w'.heap[k]? = w.heap[k]? ∧ some k ≠ ov'.ownBlock
theorem Tw.of {P : Nat} {ov : Value} {w w' : World} (h : Below w.heap.size w w') : Tw P ov ov w w' := ⟨h.size, fun k k1 _ k3 => ⟨h.block k k1, k3⟩⟩
theorem Tw.refl (P : Nat) (ov : Value) (w : World) : Tw P ov ov w w := Tw.of (Below.refl _ _)
theorem Tw.trans {P : Nat} {o1 o2 o3 : Value} {a b c : World} (h : Tw P o1 o2 a b) (k : Tw P o2 o3 b c) : Tw P o1 o3 a c :=
  ⟨Nat.le_trans h.1 k.1, fun z z1 z2 z3 => by
    obtain ⟨e1, n1⟩ := h.2 z z1 z2 z3
    obtain ⟨e2, n2⟩ := k.2 z (Nat.lt_of_lt_of_le z1 h.1) z2 n1
    exact ⟨e2.trans e1, n2⟩⟩
theorem Tw.cell {P : Nat} {o1 o2 : Value} {a b : World} (h : Tw P o1 o2 a b) {p : Addr} (h1 : p.block < a.heap.size) (h2 : p.block ≠ P) (h3 : some p.block ≠ o1.ownBlock) : b.cell? p = a.cell? p := (World.cell?_of_block (h.2 p.block h1 h2 h3).1)
end Go.Proofs.YtfcbbahlhjdefaaDoor
/- Whether two rules can be exchanged: the reference's walk. -/
namespace Go.Proofs.YtfcbbahlhjdefaaDoor
open Go.RowKit
end Go.Proofs.YtfcbbahlhjdefaaDoor
namespace Go.Proofs.YtfcbbahlhjdefaaDoor
open Go.RowKit
section
variable {v v' : Value} {w w' : World}
/-- The list v has grown and is v' now. -/
structure Gr (v v' : Value) (w w' : World) : Prop where
  g : w.grownBy w' v.ownBlock
  at' : ∀ z, v'.ownBlock = some z → v.ownBlock = some z ∨ w.heap.size ≤ z
end
theorem umiss_len (inn : List Bx) (W : Bx) : (umiss inn W).length ≤ 4 * inn.length := by
  unfold umiss
  induction inn with
  | nil => simp
  | cons y ys ih =>
    have := bcut_len y W
    rw [List.flatMap_cons, List.length_append, List.length_cons]
    omega
abbrev YL (lv : Value) (Y : Nat → Prop) : Nat → Prop := fun z => some z = lv.ownBlock ∨ Y z
theorem ufGo_bad {rec : Nat → List Bx → List Ft → UfR} {r : Ru} {rs : List Ru} {inn left : List Bx} {out : List Ft} (h : rvalid (ufit inn (tbox r.ts)) = false ∨ rvalid (umiss inn (tbox r.ts)) = false) : ufGo rec (r :: rs) inn left out = none := by
  rw [ufGo]
  rcases h with h | h
  · rw [h]; simp
  · rw [h]; simp
theorem ufGo_none {rec : Nat → List Bx → List Ft → UfR} {r : Ru} {rs : List Ru} {inn left : List Bx} {out : List Ft} (h : ufAct rec r (ufit inn (tbox r.ts)) (umiss inn (tbox r.ts)) left out = none) : ufGo rec (r :: rs) inn left out = none := by
  rw [ufGo, h]
  split <;> rfl
theorem ufGo_step {rec : Nat → List Bx → List Ft → UfR} {r : Ru} {rs : List Ru} {inn left i l : List Bx} {out o : List Ft} (h1 : rvalid (ufit inn (tbox r.ts)) = true) (h2 : rvalid (umiss inn (tbox r.ts)) = true) (h : ufAct rec r (ufit inn (tbox r.ts)) (umiss inn (tbox r.ts)) left out = some (i, l, o)) :
    ufGo rec (r :: rs) inn left out = if rvalid i && decide (o.length ≤ 60) then ufGo rec rs i l o else none := by
  rw [ufGo, h, h1, h2]
  simp
theorem ufGo_len {rec : Nat → List Bx → List Ft → UfR} : ∀ (rs : List Ru) (inn left : List Bx) (out : List Ft) (i : List Bx) (o : List Ft), ufGo rec rs inn left out = some (i, o) → out.length ≤ 60 → i.length ≤ 400 ∧ o.length ≤ 60
  | [], inn, left, out, i, o, h, ho => by
    unfold ufGo at h
    split at h
    · rename_i h2
      cases h; exact ⟨(rvalid_iff.1 h2).1, ho⟩
    · cases h
  | r :: rs, inn, left, out, i, o, h, ho => by
    unfold ufGo at h
    split at h
    · split at h
      · cases h
      · split at h
        · rename_i h2
          rw [Bool.and_eq_true, decide_eq_true_eq] at h2
          exact ufGo_len rs _ _ _ _ _ h h2.2
        · cases h
    · cases h
theorem ufWalk_len {cs : List (List Ru)} {f c : Nat} {inn : List Bx} {out : List Ft} {i : List Bx} {o : List Ft} (h : ufWalk cs f c inn out = some (i, o)) (ho : out.length ≤ 60) : i.length ≤ 400 ∧ o.length ≤ 60 := by
  cases f with
  | zero => cases h
  | succ f =>
    unfold ufWalk at h
    exact ufGo_len _ _ _ _ _ _ h ho
section
variable {S P : Nat} {W wr w : World} {Y : Nat → Prop} {ov0 iv lv ov : Value} {inn left : List Bx} {out : List Ft}
end
end Go.Proofs.YtfcbbahlhjdefaaDoor
