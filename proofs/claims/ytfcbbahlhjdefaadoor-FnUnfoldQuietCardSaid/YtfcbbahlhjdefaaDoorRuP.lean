/- Rulesets, plainly: rules, calls, the two searches for a chain that calls itself, and the unfolding. -/
import Derived.Test.YtfcbbahlhjdefaaDoorDt
import Derived.Test.YtfcbbahlhjdefaaDoorCuW
namespace Go.Proofs.YtfcbbahlhjdefaaDoor
open Go.RowKit
/-- A rule. -/
structure Ru where
  ts : List Te
  act : Int
  ch : Int
def tsvalid (ts : List Te) : Bool := ts.all Te.ok && decide (ts.length ≤ 6)
def Ru.ok (r : Ru) : Bool := tsvalid r.ts && inB r.act 1 5 && ((r.act == 3 && inB r.ch 0 4) || (r.act != 3 && r.ch == 0))
def rusvalid (l : List Ru) : Bool := l.all Ru.ok && decide (l.length ≤ 8)
/-- The numbers of the chains that the rules of a chain call. -/
def calls (l : List Ru) : List Nat := (List.range 5).filter (fun c => l.any (fun r => r.act == 3 && r.ch == (c : Int)))
def callsAt (cs : List (List Ru)) (c : Nat) : List Nat := calls (cs.getD c [])
/-- No calls without end begin at chain c. -/
inductive Good (cs : List (List Ru)) : Nat → Prop
  | mk (c : Nat) : (∀ x, x ∈ callsAt cs c → Good cs x) → Good cs c
/-- The calls are less than f deep. -/
def Ht (cs : List (List Ru)) : Nat → Nat → Prop
  | 0, _ => False
  | f + 1, c => ∀ x, x ∈ callsAt cs c → Ht cs f x
theorem Ht.mono {cs : List (List Ru)} : ∀ {f g c : Nat}, Ht cs f c → f ≤ g → Ht cs g c
  | 0, _, _, h, _ => h.elim
  | f + 1, 0, _, _, hle => by omega
  | f + 1, g + 1, _, h, hle => fun x hx => Ht.mono (h x hx) (by omega)
theorem Ht.all {cs : List (List Ru)} {l : List Nat} (h : ∀ x, x ∈ l → ∃ f, Ht cs f x) : ∃ f, ∀ x, x ∈ l → Ht cs f x := by
  induction l with
  | nil => exact ⟨0, fun x hx => by cases hx⟩
  | cons a l ih =>
    obtain ⟨f, hf⟩ := ih (fun x hx => h x (List.mem_cons_of_mem _ hx))
    obtain ⟨g, hg⟩ := h a List.mem_cons_self
    refine ⟨max f g, fun x hx => ?_⟩
    rcases List.mem_cons.1 hx with rfl | hx
    · exact hg.mono (Nat.le_max_right _ _)
    · exact (hf x hx).mono (Nat.le_max_left _ _)
theorem Good.ht {cs : List (List Ru)} {c : Nat} (h : Good cs c) : ∃ f, Ht cs f c := by
  induction h with
  | mk c _ ih =>
    obtain ⟨f, hf⟩ := Ht.all ih
    exact ⟨f + 1, hf⟩
/-- x is called from g, by one call or more. -/
inductive Leads (cs : List (List Ru)) : Nat → Nat → Prop
  | one {g x : Nat} : x ∈ callsAt cs g → Leads cs g x
  | more {g y x : Nat} : Leads cs g y → x ∈ callsAt cs y → Leads cs g x
theorem Leads.first {cs : List (List Ru)} {g x : Nat} (h : Leads cs g x) : ∃ y, y ∈ callsAt cs g ∧ (y = x ∨ Leads cs y x) := by
  induction h with
  | one h => exact ⟨_, h, .inl rfl⟩
  | more _ h2 ih =>
    obtain ⟨y, hy, e⟩ := ih
    refine ⟨y, hy, .inr ?_⟩
    rcases e with rfl | e
    · exact .one h2
    · exact .more e h2
theorem Good.free {cs : List (List Ru)} {c : Nat} (h : Good cs c) : ¬ Leads cs c c := by
  induction h with
  | mk c _ ih =>
    intro hr
    obtain ⟨y, hy, e⟩ := hr.first
    refine ih y hy ?_
    rcases e with rfl | e
    · exact .one hy
    · exact .more e hy
/-! The reference's search: what calls only what is done is done. -/
def kready (cs : List (List Ru)) (d : List Bool) (c : Nat) : Bool := (cs.getD c []).all (fun r => r.act != 3 || d.getD r.ch.toNat false)
def kstep (cs : List (List Ru)) (d : List Bool) (c : Nat) : List Bool := if !d.getD c false && kready cs d c then d.set c true else d
def kround (cs : List (List Ru)) (d : List Bool) : List Bool := (List.range cs.length).foldl (kstep cs) d
def krounds (cs : List (List Ru)) : Nat → List Bool → List Bool
  | 0, d => d
  | n + 1, d => kround cs (krounds cs n d)
def kfin (cs : List (List Ru)) : List Bool := krounds cs cs.length (List.replicate cs.length false)
def kcount (d : List Bool) : Nat := d.countP (fun b => b)
/-- Every call goes to a chain that is there. -/
def CallsIn (cs : List (List Ru)) : Prop := ∀ l, l ∈ cs → ∀ r, r ∈ l → r.act = 3 → 0 ≤ r.ch ∧ r.ch < 5 ∧ r.ch < (cs.length : Int)
theorem callsAt_mem {cs : List (List Ru)} {c x : Nat} : x ∈ callsAt cs c ↔ x < 5 ∧ ∃ r, r ∈ cs.getD c [] ∧ r.act = 3 ∧ r.ch = (x : Int) := by
  unfold callsAt calls
  rw [List.mem_filter, List.mem_range, List.any_eq_true]
  simp only [Bool.and_eq_true, beq_iff_eq]
theorem getD_mem {α : Type} {l : List (List α)} {c : Nat} {r : α} (h : r ∈ l.getD c []) : l.getD c [] ∈ l := by
  rw [List.getD_eq_getElem?_getD] at h ⊢
  cases e : l[c]? with
  | none => rw [e] at h; simp at h
  | some x => rw [Option.getD_some]; exact List.mem_of_getElem? e
theorem callsAt_lt {cs : List (List Ru)} (hc : CallsIn cs) {c x : Nat} (h : x ∈ callsAt cs c) : x < cs.length ∧ x < 5 := by
  obtain ⟨h5, r, hr, ha, hx⟩ := callsAt_mem.1 h
  have := (hc _ (getD_mem hr) r hr ha).2.2
  omega
theorem kready_iff {cs : List (List Ru)} (hc : CallsIn cs) {d : List Bool} {c : Nat} : kready cs d c = true ↔ ∀ x, x ∈ callsAt cs c → d.getD x false = true := by
  unfold kready
  rw [List.all_eq_true]
  constructor
  · intro h x hx
    obtain ⟨_, r, hr, ha, hxr⟩ := callsAt_mem.1 hx
    have := h r hr
    rw [ha, hxr] at this
    simpa using this
  · intro h r hr
    by_cases ha : r.act = 3
    · obtain ⟨h0, h5, hn⟩ := hc _ (getD_mem hr) r hr ha
      have := h r.ch.toNat (callsAt_mem.2 ⟨by omega, r, hr, ha, by omega⟩)
      rw [this, Bool.or_true]
    · have : (r.act != 3) = true := by simpa using ha
      rw [this, Bool.true_or]
theorem kstep_len {cs : List (List Ru)} {d : List Bool} {c : Nat} : (kstep cs d c).length = d.length := by unfold kstep; split <;> simp
theorem kstep_mono {cs : List (List Ru)} {d : List Bool} {c x : Nat} (h : d.getD x false = true) : (kstep cs d c).getD x false = true := by
  unfold kstep
  split
  · rw [List.getD_eq_getElem?_getD] at h ⊢
    by_cases e : c = x
    · subst e
      cases hx : d[c]? with
      | none => rw [hx] at h; cases h
      | some b => rw [List.getElem?_set_self (List.getElem?_eq_some_iff.1 hx).1]; rfl
    · rw [List.getElem?_set_ne e]; exact h
  · exact h
theorem kfold_len {cs : List (List Ru)} : ∀ (l : List Nat) (d : List Bool), (l.foldl (kstep cs) d).length = d.length
  | [], _ => rfl
  | a :: l, d => by rw [List.foldl_cons, kfold_len l, kstep_len]
theorem kfold_mono {cs : List (List Ru)} {x : Nat} : ∀ (l : List Nat) (d : List Bool), d.getD x false = true → (l.foldl (kstep cs) d).getD x false = true
  | [], _, h => h
  | a :: l, d, h => by rw [List.foldl_cons]; exact kfold_mono l _ (kstep_mono h)
theorem kfold_hit {cs : List (List Ru)} (hc : CallsIn cs) {c : Nat} (hlt : c < cs.length) : ∀ (l : List Nat) (d : List Bool), d.length = cs.length → c ∈ l → (∀ x, x ∈ callsAt cs c → d.getD x false = true) → (l.foldl (kstep cs) d).getD c false = true
  | [], _, _, h, _ => by cases h
  | a :: l, d, hd, h, hx => by
    rw [List.foldl_cons]
    by_cases e : a = c
    · subst e
      refine kfold_mono l _ ?_
      unfold kstep
      rw [(kready_iff hc).2 hx, Bool.and_true]
      split
      · rw [List.getD_eq_getElem?_getD, List.getElem?_set_self (by omega)]; rfl
      · rename_i h2
        simpa using h2
    · exact kfold_hit hc hlt l _ (by rw [kstep_len, hd]) (by rcases List.mem_cons.1 h with h | h; exact absurd h.symm e; exact h) (fun x hx' => kstep_mono (hx x hx'))
theorem krounds_len {cs : List (List Ru)} {d : List Bool} : ∀ n, (krounds cs n d).length = d.length
  | 0 => rfl
  | n + 1 => by unfold krounds kround; rw [kfold_len, krounds_len n]
/-- What is done calls nothing without end. -/
theorem kfold_good {cs : List (List Ru)} (hc : CallsIn cs) : ∀ (l : List Nat) (d : List Bool), (∀ x, d.getD x false = true → Good cs x) → ∀ x, (l.foldl (kstep cs) d).getD x false = true → Good cs x
  | [], _, h => h
  | a :: l, d, h => by
    rw [List.foldl_cons]
    refine kfold_good hc l _ (fun x hx => ?_)
    unfold kstep at hx
    split at hx
    · rename_i h2
      rw [Bool.and_eq_true] at h2
      by_cases e : a = x
      · subst e
        exact Good.mk a (fun y hy => h y ((kready_iff hc).1 h2.2 y hy))
      · rw [List.getD_eq_getElem?_getD, List.getElem?_set_ne e, ← List.getD_eq_getElem?_getD] at hx
        exact h x hx
    · exact h x hx
theorem krounds_good {cs : List (List Ru)} (hc : CallsIn cs) : ∀ (n : Nat) (x : Nat), (krounds cs n (List.replicate cs.length false)).getD x false = true → Good cs x
  | 0, x, h => by
    unfold krounds at h
    rw [List.getD_eq_getElem?_getD, List.getElem?_replicate] at h
    split at h <;> cases h
  | n + 1, x, h => kfold_good hc _ _ (krounds_good hc n) x h
theorem cnt_le : ∀ (d d' : List Bool), d.length = d'.length → (∀ x, d.getD x false = true → d'.getD x false = true) → kcount d ≤ kcount d'
  | [], [], _, _ => Nat.le_refl _
  | [], _ :: _, h, _ => by simp at h
  | _ :: _, [], h, _ => by simp at h
  | a :: d, b :: d', hl, h => by
    have ih := cnt_le d d' (by simpa using hl) (fun x hx => by have := h (x + 1) (by simpa using hx); simpa using this)
    have h0 := h 0
    unfold kcount at *
    cases a <;> cases b <;> simp_all <;> omega
theorem cnt_lt : ∀ (d d' : List Bool) (c : Nat), d.length = d'.length → (∀ x, d.getD x false = true → d'.getD x false = true) → c < d.length → d.getD c false = false → d'.getD c false = true → kcount d < kcount d'
  | [], _, _, _, _, h, _, _ => by simp at h
  | _ :: _, [], _, h, _, _, _, _ => by simp at h
  | a :: d, b :: d', 0, hl, h, _, h1, h2 => by
    have ih := cnt_le d d' (by simpa using hl) (fun x hx => by have := h (x + 1) (by simpa using hx); simpa using this)
    simp at h1 h2
    subst h1 h2
    unfold kcount at *
    simp
    omega
  | a :: d, b :: d', c + 1, hl, h, hc, h1, h2 => by
    have ih := cnt_lt d d' c (by simpa using hl) (fun x hx => by have := h (x + 1) (by simpa using hx); simpa using this) (by simpa using hc) (by simpa using h1) (by simpa using h2)
    have h0 := h 0
    unfold kcount at *
    cases a <;> cases b <;> simp_all <;> omega
theorem cnt_all {d : List Bool} (h : kcount d = d.length) {c : Nat} (hc : c < d.length) : d.getD c false = true := by
  unfold kcount at h
  have h2 := List.countP_eq_length.1 h
  rw [List.getD_eq_getElem?_getD, List.getElem?_eq_getElem hc]
  exact h2 _ (List.getElem_mem hc)
theorem cnt_max {d : List Bool} (h : ∀ c, c < d.length → d.getD c false = true) : kcount d = d.length := by
  refine List.countP_eq_length.2 (fun b hb => ?_)
  obtain ⟨i, hi⟩ := List.getElem?_of_mem hb
  have := h i (List.getElem?_eq_some_iff.1 hi).1
  rw [List.getD_eq_getElem?_getD, hi] at this
  exact this
/-- Among what is not done one calls only what is done. -/
theorem next_ready {cs : List (List Ru)} (hc : CallsIn cs) {d : List Bool} {c : Nat} (h : Good cs c) : c < cs.length → d.getD c false = false → ∃ x, x < cs.length ∧ d.getD x false = false ∧ ∀ y, y ∈ callsAt cs x → d.getD y false = true := by
  induction h with
  | mk c _ ih =>
    intro hlt hd
    by_cases hall : ∀ y, y ∈ callsAt cs c → d.getD y false = true
    · exact ⟨c, hlt, hd, hall⟩
    · simp only [Classical.not_forall] at hall
      obtain ⟨y, hy, hn⟩ := hall
      exact ih y hy (callsAt_lt hc hy).1 (by simpa using hn)
theorem krounds_count {cs : List (List Ru)} (hc : CallsIn cs) (hg : ∀ c, c < cs.length → Good cs c) : ∀ n, n ≤ cs.length → n ≤ kcount (krounds cs n (List.replicate cs.length false))
  | 0, _ => Nat.zero_le _
  | n + 1, hn => by
    have ih := krounds_count hc hg n (by omega)
    have hl : (krounds cs n (List.replicate cs.length false)).length = cs.length := by rw [krounds_len, List.length_replicate]
    generalize hd : krounds cs n (List.replicate cs.length false) = d at *
    have e : krounds cs (n + 1) (List.replicate cs.length false) = kround cs d := by rw [krounds, hd]
    rw [e]
    have hle := cnt_le d (kround cs d) (by unfold kround; rw [kfold_len]) (fun x hx => kfold_mono _ _ hx)
    by_cases hall : ∀ c, c < d.length → d.getD c false = true
    · have := cnt_max hall
      omega
    · simp only [Classical.not_forall] at hall
      obtain ⟨c, h1, h2⟩ := hall
      obtain ⟨x, hx, hxd, hy⟩ := next_ready hc (hg c (by omega)) (by omega) (by simpa using h2)
      have := cnt_lt d (kround cs d) x (by unfold kround; rw [kfold_len]) (fun x hx => kfold_mono _ _ hx) (by omega) hxd (kfold_hit hc hx _ _ hl (List.mem_range.2 hx) hy)
      omega
theorem kfin_iff {cs : List (List Ru)} (hc : CallsIn cs) : kcount (kfin cs) = cs.length ↔ ∀ c, c < cs.length → Good cs c := by
  have hl : (kfin cs).length = cs.length := by unfold kfin; rw [krounds_len, List.length_replicate]
  constructor
  · intro h c hlt
    exact krounds_good hc _ _ (cnt_all (h.trans hl.symm) (by omega))
  · intro h
    have h1 := krounds_count hc h cs.length (Nat.le_refl _)
    have h2 : kcount (kfin cs) ≤ (kfin cs).length := List.countP_le_length
    unfold kfin at *
    omega
/-! The program's search: depth first, with colours. -/
def vfold (v : Nat → List Nat → Bool × List Nat) : List Nat → Bool → List Nat → Bool × List Nat
  | [], b, col => (b, col)
  | x :: l, b, col => vfold v l (b && (v x col).1) (v x col).2
def visit (cs : List (List Ru)) : Nat → Nat → List Nat → Bool × List Nat
  | 0, _, col => (false, col)
  | f + 1, c, col =>
    if cs.length ≤ c then (true, col)
    else if col.getD c 0 = 1 then (false, col)
    else if col.getD c 0 = 2 then (true, col)
    else ((vfold (visit cs f) (callsAt cs c) true (col.set c 1)).1, (vfold (visit cs f) (callsAt cs c) true (col.set c 1)).2.set c 2)
def acycl (cs : List (List Ru)) (f : Nat) : List Nat → List Nat → Bool
  | [], _ => true
  | c :: l, col => (visit cs f c col).1 && acycl cs f l (visit cs f c col).2
theorem getD_set {α : Type} {l : List α} {c x : Nat} {a d : α} (hc : c < l.length) : (l.set c a).getD x d = if c = x then a else l.getD x d := by
  rw [List.getD_eq_getElem?_getD, List.getD_eq_getElem?_getD]
  by_cases e : c = x
  · subst e; rw [List.getElem?_set_self hc, if_pos rfl]; rfl
  · rw [List.getElem?_set_ne e, if_neg e]
theorem vfold_len {v : Nat → List Nat → Bool × List Nat} (hv : ∀ x col, (v x col).2.length = col.length) : ∀ (l : List Nat) (b : Bool) (col : List Nat), (vfold v l b col).2.length = col.length
  | [], _, _ => rfl
  | x :: l, b, col => by unfold vfold; rw [vfold_len hv l, hv]
theorem visit_len {cs : List (List Ru)} : ∀ (f c : Nat) (col : List Nat), (visit cs f c col).2.length = col.length
  | 0, _, _ => rfl
  | f + 1, c, col => by
    unfold visit
    split
    · rfl
    · split
      · rfl
      · split
        · rfl
        · simp only [List.length_set]
          rw [vfold_len (visit_len f), List.length_set]
theorem vfold_true {v : Nat → List Nat → Bool × List Nat} : ∀ (l : List Nat) (b : Bool) (col : List Nat), (vfold v l b col).1 = true → b = true
  | [], _, _, h => h
  | x :: l, b, col, h => by
    unfold vfold at h
    have := vfold_true l _ _ h
    rw [Bool.and_eq_true] at this
    exact this.1
/-- Who is grey stays grey, and no one else is. -/
theorem vfold_grey {v : Nat → List Nat → Bool × List Nat} {n : Nat} (hl : ∀ x col, (v x col).2.length = col.length) (hv : ∀ x col, col.length = n → ∀ y, (v x col).2.getD y 0 = 1 ↔ col.getD y 0 = 1) : ∀ (l : List Nat) (b : Bool) (col : List Nat), col.length = n → ∀ y, (vfold v l b col).2.getD y 0 = 1 ↔ col.getD y 0 = 1
  | [], _, _, _, _ => Iff.rfl
  | x :: l, b, col, hn, y => by
    unfold vfold
    rw [vfold_grey hl hv l _ _ (by rw [hl, hn]) y, hv x col hn y]
theorem visit_grey {cs : List (List Ru)} {n : Nat} (hcn : cs.length ≤ n) : ∀ (f c : Nat) (col : List Nat), col.length = n → ∀ y, (visit cs f c col).2.getD y 0 = 1 ↔ col.getD y 0 = 1
  | 0, _, _, _, _ => Iff.rfl
  | f + 1, c, col, hn, y => by
    unfold visit
    split
    · exact Iff.rfl
    · rename_i h1
      split
      · exact Iff.rfl
      · rename_i h2
        split
        · exact Iff.rfl
        · simp only
          have hl : (vfold (visit cs f) (callsAt cs c) true (col.set c 1)).2.length = n := by rw [vfold_len (visit_len f), List.length_set, hn]
          rw [getD_set (by omega)]
          by_cases e : c = y
          · subst e
            rw [if_pos rfl]
            exact ⟨fun h => by omega, fun h => absurd h h2⟩
          · rw [if_neg e, vfold_grey (n := n) (visit_len f) (visit_grey hcn f) _ _ _ (by rw [List.length_set, hn]) y, getD_set (by omega), if_neg e]
/-- Where the answer is yes, all that is black calls nothing without end. -/
theorem vfold_good {cs : List (List Ru)} {v : Nat → List Nat → Bool × List Nat} (hv : ∀ x col, (v x col).1 = true → (∀ y, col.getD y 0 = 2 → Good cs y) → (∀ y, (v x col).2.getD y 0 = 2 → Good cs y) ∧ Good cs x) :
    ∀ (l : List Nat) (b : Bool) (col : List Nat), (vfold v l b col).1 = true → (∀ y, col.getD y 0 = 2 → Good cs y) → (∀ y, (vfold v l b col).2.getD y 0 = 2 → Good cs y) ∧ ∀ x, x ∈ l → Good cs x
  | [], _, _, _, h => ⟨h, fun x hx => by cases hx⟩
  | x :: l, b, col, ht, h => by
    unfold vfold at ht ⊢
    have h1 := vfold_true l _ _ ht
    rw [Bool.and_eq_true] at h1
    obtain ⟨h2, h3⟩ := hv x col h1.2 h
    obtain ⟨h4, h5⟩ := vfold_good hv l _ _ ht h2
    exact ⟨h4, fun y hy => by
      rcases List.mem_cons.1 hy with rfl | hy
      · exact h3
      · exact h5 y hy⟩
theorem visit_good {cs : List (List Ru)} : ∀ (f c : Nat) (col : List Nat), (visit cs f c col).1 = true → (∀ y, col.getD y 0 = 2 → Good cs y) → (∀ y, (visit cs f c col).2.getD y 0 = 2 → Good cs y) ∧ Good cs c
  | 0, _, _, h, _ => by cases h
  | f + 1, c, col, h, hg => by
    unfold visit at h ⊢
    split at h
    · rename_i h1
      rw [if_pos h1]
      refine ⟨hg, Good.mk c (fun x hx => ?_)⟩
      unfold callsAt at hx
      rw [List.getD_eq_getElem?_getD, List.getElem?_eq_none h1] at hx
      exact absurd hx (by simp [calls])
    · rename_i h1
      rw [if_neg h1]
      split at h
      · cases h
      · rename_i h2
        rw [if_neg h2]
        split at h
        · rename_i h3
          rw [if_pos h3]
          exact ⟨hg, hg c h3⟩
        · rename_i h3
          rw [if_neg h3]
          simp only at h ⊢
          have hset : ∀ y, (col.set c 1).getD y 0 = 2 → Good cs y := fun y hy => by
            by_cases hlt : c < col.length
            · rw [getD_set hlt] at hy
              split at hy
              · omega
              · exact hg y hy
            · rw [List.set_eq_of_length_le (by omega)] at hy
              exact hg y hy
          obtain ⟨h4, h5⟩ := vfold_good (visit_good f) _ _ _ h hset
          have hgc : Good cs c := Good.mk c h5
          refine ⟨fun y hy => ?_, hgc⟩
          by_cases hlt : c < (vfold (visit cs f) (callsAt cs c) true (col.set c 1)).2.length
          · rw [getD_set hlt] at hy
            split at hy
            · rename_i e; rw [← e]; exact hgc
            · exact h4 y hy
          · rw [List.set_eq_of_length_le (by omega)] at hy
            exact h4 y hy
/-! Where nothing calls itself, the answer is yes. -/
def wht (x : Nat) : Bool := x != 1 && x != 2
def whites (col : List Nat) : Nat := col.countP wht
theorem whites_set : ∀ (col : List Nat) (c a : Nat), wht a = false → whites (col.set c a) ≤ whites col
  | [], _, _, _ => by simp
  | x :: col, 0, a, ha => by
    unfold whites
    rw [List.set_cons_zero, List.countP_cons, List.countP_cons, ha]
    simp
  | x :: col, c + 1, a, ha => by
    have := whites_set col c a ha
    unfold whites at *
    rw [List.set_cons_succ, List.countP_cons, List.countP_cons]
    omega
theorem whites_lt : ∀ (col : List Nat) (c a : Nat), wht a = false → c < col.length → wht (col.getD c 0) = true → whites (col.set c a) < whites col
  | [], _, _, _, h, _ => by simp at h
  | x :: col, 0, a, ha, _, h0 => by
    rw [show (x :: col).getD 0 0 = x from rfl] at h0
    unfold whites
    rw [List.set_cons_zero, List.countP_cons, List.countP_cons, ha, h0]
    simp
  | x :: col, c + 1, a, ha, hl, h0 => by
    have := whites_lt col c a ha (by simpa using hl) (by simpa using h0)
    unfold whites at *
    rw [List.set_cons_succ, List.countP_cons, List.countP_cons]
    omega
theorem vfold_whites {v : Nat → List Nat → Bool × List Nat} (hv : ∀ x col, whites (v x col).2 ≤ whites col) : ∀ (l : List Nat) (b : Bool) (col : List Nat), whites (vfold v l b col).2 ≤ whites col
  | [], _, _ => Nat.le_refl _
  | x :: l, b, col => by unfold vfold; exact Nat.le_trans (vfold_whites hv l _ _) (hv x col)
theorem visit_whites {cs : List (List Ru)} : ∀ (f c : Nat) (col : List Nat), whites (visit cs f c col).2 ≤ whites col
  | 0, _, _ => Nat.le_refl _
  | f + 1, c, col => by
    unfold visit
    split
    · exact Nat.le_refl _
    · split
      · exact Nat.le_refl _
      · split
        · exact Nat.le_refl _
        · exact Nat.le_trans (whites_set _ _ _ (by decide)) (Nat.le_trans (vfold_whites (visit_whites f) _ _ _) (whites_set _ _ _ (by decide)))
theorem vfold_yes {cs : List (List Ru)} {v : Nat → List Nat → Bool × List Nat} {n m : Nat} {c : Nat} (hl : ∀ x col, (v x col).2.length = col.length) (hw : ∀ x col, whites (v x col).2 ≤ whites col)
    (hgr : ∀ x col, col.length = n → ∀ y, (v x col).2.getD y 0 = 1 ↔ col.getD y 0 = 1) (hv : ∀ x col, col.length = n → whites col < m → x ∈ callsAt cs c → (∀ g, col.getD g 0 = 1 → Leads cs g x) → (v x col).1 = true) :
    ∀ (l : List Nat) (col : List Nat), (∀ x, x ∈ l → x ∈ callsAt cs c) → col.length = n → whites col < m → (∀ g x, col.getD g 0 = 1 → x ∈ callsAt cs c → Leads cs g x) → (vfold v l true col).1 = true
  | [], _, _, _, _, _ => rfl
  | x :: l, col, hx, hn, hm, hg => by
    unfold vfold
    rw [hv x col hn hm (hx x List.mem_cons_self) (fun g h => hg g x h (hx x List.mem_cons_self)), Bool.and_true]
    exact vfold_yes hl hw hgr hv l _ (fun y hy => hx y (List.mem_cons_of_mem _ hy)) (by rw [hl, hn]) (Nat.lt_of_le_of_lt (hw x col) hm) (fun g y h hy => hg g y ((hgr x col hn g).1 h) hy)
theorem visit_yes {cs : List (List Ru)} {n : Nat} (hcn : cs.length ≤ n) (hall : ∀ c, Good cs c) : ∀ (f c : Nat) (col : List Nat), col.length = n → whites col < f → (∀ g, col.getD g 0 = 1 → Leads cs g c) → (visit cs f c col).1 = true
  | 0, _, _, _, h, _ => by omega
  | f + 1, c, col, hn, hw, hg => by
    unfold visit
    split
    · rfl
    · rename_i h1
      split
      · rename_i h2
        exact absurd (hg c h2) (hall c).free
      · rename_i h2
        split
        · rfl
        · rename_i h3
          simp only
          have hlt := whites_lt col c 1 (by decide) (by omega) (show wht (col.getD c 0) = true by unfold wht; simp only [Bool.and_eq_true, bne_iff_ne]; exact ⟨h2, h3⟩)
          refine vfold_yes (n := n) (m := f) (visit_len f) (visit_whites f) (visit_grey hcn f) (fun x col' hn' hw' _ hg' => visit_yes hcn hall f x col' hn' hw' hg') _ _ (fun x hx => hx) (by rw [List.length_set, hn]) (by omega) (fun g x h hx => ?_)
          rw [getD_set (by omega)] at h
          split at h
          · rename_i e; subst e; exact .one hx
          · exact .more (hg g h) hx
theorem good_all {cs : List (List Ru)} (h : ∀ c, c < cs.length → Good cs c) (c : Nat) : Good cs c := by
  by_cases hlt : c < cs.length
  · exact h c hlt
  · refine Good.mk c (fun x hx => ?_)
    unfold callsAt at hx
    rw [List.getD_eq_getElem?_getD, List.getElem?_eq_none (by omega)] at hx
    exact absurd hx (by simp [calls])
theorem acycl_good {cs : List (List Ru)} {f : Nat} : ∀ (l : List Nat) (col : List Nat), acycl cs f l col = true → (∀ y, col.getD y 0 = 2 → Good cs y) → ∀ c, c ∈ l → Good cs c
  | [], _, _, _, _, h => by cases h
  | a :: l, col, h, hg, c, hc => by
    unfold acycl at h
    rw [Bool.and_eq_true] at h
    obtain ⟨h1, h2⟩ := visit_good f a col h.1 hg
    rcases List.mem_cons.1 hc with rfl | hc
    · exact h2
    · exact acycl_good l _ h.2 h1 c hc
theorem acycl_yes {cs : List (List Ru)} {n f : Nat} (hcn : cs.length ≤ n) (hall : ∀ c, Good cs c) (hf : n < f) : ∀ (l : List Nat) (col : List Nat), col.length = n → (∀ g, ¬ col.getD g 0 = 1) → acycl cs f l col = true
  | [], _, _, _ => rfl
  | a :: l, col, hn, hg => by
    unfold acycl
    have hw : whites col ≤ col.length := List.countP_le_length
    rw [visit_yes hcn hall f a col hn (by omega) (fun g h => absurd h (hg g)), Bool.true_and]
    exact acycl_yes hcn hall hf l _ (by rw [visit_len, hn]) (fun g h => hg g ((visit_grey hcn f a col hn g).1 h))
/-- Both searches agree. -/
theorem acycl_iff {cs : List (List Ru)} (hn : cs.length ≤ 5) : acycl cs 6 (List.range cs.length) [0, 0, 0, 0, 0] = true ↔ ∀ c, c < cs.length → Good cs c := by
  have h0 : ∀ y, [0, 0, 0, 0, 0].getD y 0 = 0 := fun y => by
    match y with
    | 0 => rfl
    | 1 => rfl
    | 2 => rfl
    | 3 => rfl
    | 4 => rfl
    | y + 5 => rfl
  constructor
  · intro h c hc
    exact acycl_good _ _ h (fun y hy => by rw [h0 y] at hy; cases hy) c (List.mem_range.2 hc)
  · intro h
    exact acycl_yes (n := 5) hn (good_all h) (by decide) _ _ rfl (fun g hg => by rw [h0 g] at hg; cases hg)
theorem acycl_kfin {cs : List (List Ru)} (hc : CallsIn cs) (hn : cs.length ≤ 5) : acycl cs 6 (List.range cs.length) [0, 0, 0, 0, 0] = decide (kcount (kfin cs) = cs.length) := by
  rw [Bool.eq_iff_iff, decide_eq_true_eq, acycl_iff hn, kfin_iff hc]
end Go.Proofs.YtfcbbahlhjdefaaDoor
