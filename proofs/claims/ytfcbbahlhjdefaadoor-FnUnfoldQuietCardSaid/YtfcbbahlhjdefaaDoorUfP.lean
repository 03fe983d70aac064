/- Unfolding, plainly. -/
import Derived.Test.YtfcbbahlhjdefaaDoorRuP
import Derived.Test.YtfcbbahlhjdefaaDoorRdRs
namespace Go.Proofs.YtfcbbahlhjdefaaDoor
open Go.RowKit
def tspans (t : Te) : List Sp := if t.not then sother (top t.fld.toNat) 0 [⟨t.lo, t.hi⟩] else [⟨t.lo, t.hi⟩]
def tbox1 (b : Bx) (t : Te) : Bx := b.set t.fld.toNat (smeet (b.getD t.fld.toNat []) (tspans t))
def tbox (ts : List Te) : Bx := ts.foldl tbox1 ball
theorem tok_iff {t : Te} (h : t.ok = true) : ∃ k : Nat, t.fld = k ∧ k < 4 ∧ 0 ≤ t.lo ∧ t.lo ≤ t.hi ∧ t.hi ≤ top k := by
  obtain ⟨k, hk, h4⟩ := tvalid1_fld (f := t.fld) (lo := t.lo) (hi := t.hi) h
  have h2 : tvalid1 (k : Int) t.lo t.hi = true := by rw [← hk]; exact h
  obtain ⟨a, b, c⟩ := tvalid1_iff h2
  exact ⟨k, hk, h4, a, b, c⟩
theorem sgood_one {t m : Int} {x : Sp} (h1 : m ≤ x.lo) (h2 : x.lo ≤ x.hi) (h3 : x.hi ≤ t) : sgood t m [x] = true := by
  unfold sgood
  simp [sgood]
  omega
theorem tspans_good {t : Te} (h : t.ok = true) : sgood (top t.fld.toNat) 0 (tspans t) = true ∧ (tspans t).length ≤ 2 := by
  obtain ⟨k, hk, h4, a, b, c⟩ := tok_iff h
  have hg : sgood (top t.fld.toNat) 0 [⟨t.lo, t.hi⟩] = true := sgood_one a b (by rw [hk]; exact c)
  unfold tspans
  split
  · exact ⟨sother_good hg, sother_len1 _ _ _⟩
  · exact ⟨hg, by simp⟩
theorem smeet_cons (x : Sp) (a b : List Sp) : smeet (x :: a) b = b.filterMap (meet1 x) ++ smeet a b := rfl
theorem sgood_after {h m : Int} {x : Sp} : ∀ {a : List Sp}, sgood h m (x :: a) = true → ∀ y, y ∈ a → x.hi < y.lo := by
  have key : ∀ {a : List Sp} {m : Int}, sgood h m a = true → ∀ y, y ∈ a → m ≤ y.lo := by
    intro a
    induction a with
    | nil => intro m _ y hy; cases hy
    | cons z a ih =>
      intro m hg y hy
      unfold sgood at hg
      simp only [Bool.and_eq_true, decide_eq_true_eq] at hg
      rcases List.mem_cons.1 hy with rfl | hy
      · omega
      · have := ih hg.2 y hy
        omega
  intro a hg y hy
  unfold sgood at hg
  simp only [Bool.and_eq_true, decide_eq_true_eq] at hg
  have := key hg.2 y hy
  omega
theorem smeet_far {y1 y2 : Sp} : ∀ (a : List Sp), (∀ x, x ∈ a → y1.hi < x.lo) → (smeet a [y1, y2]).length ≤ a.length
  | [], _ => by simp [smeet]
  | x :: a, h => by
    rw [smeet_cons, List.length_append, List.length_cons]
    have h1 := smeet_far (y1 := y1) (y2 := y2) a (fun z hz => h z (List.mem_cons_of_mem _ hz))
    have h2 : meet1 x y1 = none := meet1_no (.inr (h x List.mem_cons_self))
    have h3 : ([y1, y2].filterMap (meet1 x)).length ≤ 1 := by
      rw [List.filterMap_cons, h2]
      simp only
      exact Nat.le_trans (List.length_filterMap_le _ _) (by simp)
    omega
theorem smeet_two {h : Int} {y1 y2 : Sp} (hy : y1.hi < y2.lo) : ∀ {m : Int} (a : List Sp), sgood h m a = true → (smeet a [y1, y2]).length ≤ a.length + 1
  | _, [], _ => by simp [smeet]
  | m, x :: a, hg => by
    rw [smeet_cons, List.length_append, List.length_cons]
    by_cases hx : x.hi < y2.lo
    · have h2 : meet1 x y2 = none := meet1_no (.inl hx)
      have h3 : ([y1, y2].filterMap (meet1 x)).length ≤ 1 := by
        rw [List.filterMap_cons, List.filterMap_cons, h2]
        cases meet1 x y1 <;> simp
      have hg2 : ∃ m', sgood h m' a = true := by
        unfold sgood at hg
        simp only [Bool.and_eq_true] at hg
        exact ⟨_, hg.2⟩
      obtain ⟨m', hg2⟩ := hg2
      have := smeet_two hy a hg2
      omega
    · have h3 : ([y1, y2].filterMap (meet1 x)).length ≤ 2 := Nat.le_trans (List.length_filterMap_le _ _) (by simp)
      have := smeet_far (y1 := y1) (y2 := y2) a (fun z hz => by have := sgood_after hg z hz; omega)
      omega
theorem smeet_one {y : Sp} : ∀ (a : List Sp), (smeet a [y]).length ≤ a.length
  | [] => by simp [smeet]
  | x :: a => by
    rw [smeet_cons, List.length_append, List.length_cons]
    have h3 : ([y].filterMap (meet1 x)).length ≤ 1 := Nat.le_trans (List.length_filterMap_le _ _) (by simp)
    have := smeet_one (y := y) a
    omega
theorem smeet_grow {h h2 m m2 : Int} {a b : List Sp} (ha : sgood h m a = true) (hb : sgood h2 m2 b = true) (hl : b.length ≤ 2) : (smeet a b).length ≤ a.length + 1 := by
  match b, hb, hl with
  | [], _, _ => rw [show smeet a [] = [] from by unfold smeet; simp]; simp
  | [y], _, _ => exact Nat.le_succ_of_le (smeet_one a)
  | [y1, y2], hb, _ => exact smeet_two (sgood_after hb y2 (by simp)) a ha
  | _ :: _ :: _ :: _, _, hl => simp at hl
/-- A box whose sets have at most m ranges. -/
def BGood (m : Nat) (b : Bx) : Prop := b.length = 4 ∧ ∀ n, n < 4 → sgood (top n) 0 (b.getD n []) = true ∧ (b.getD n []).length ≤ m
theorem BGood.ball : BGood 1 ball := ⟨rfl, fun n hn => by
  match n, hn with
  | 0, _ => decide
  | 1, _ => decide
  | 2, _ => decide
  | 3, _ => decide
  | n + 4, h => omega⟩
theorem BGood.step {m : Nat} {b : Bx} {t : Te} (h : BGood m b) (ht : t.ok = true) : BGood (m + 1) (tbox1 b t) := by
  obtain ⟨k, hk, h4, -, -, -⟩ := tok_iff ht
  obtain ⟨g1, g2⟩ := tspans_good ht
  have e : t.fld.toNat = k := by omega
  unfold tbox1
  rw [e] at g1 ⊢
  refine ⟨by rw [List.length_set]; exact h.1, fun n hn => ?_⟩
  rw [getD_set (by rw [h.1]; exact h4)]
  split
  · rename_i e2
    subst e2
    exact ⟨smeet_le_len (h.2 k hn).1 g1, Nat.le_trans (smeet_grow (h.2 k hn).1 g1 g2) (by have := (h.2 k hn).2; omega)⟩
  · exact ⟨(h.2 n hn).1, by have := (h.2 n hn).2; omega⟩
theorem BGood.fold : ∀ (ts : List Te) (m : Nat) (b : Bx), BGood m b → ts.all Te.ok = true → BGood (m + ts.length) (ts.foldl tbox1 b)
  | [], _, _, h, _ => h
  | t :: ts, m, b, h, ht => by
    rw [List.all_cons, Bool.and_eq_true] at ht
    have := BGood.fold ts (m + 1) _ (h.step ht.1) ht.2
    rw [List.foldl_cons, List.length_cons, show m + (ts.length + 1) = m + 1 + ts.length by omega]
    exact this
theorem BGood.valid {m : Nat} {b : Bx} (h : BGood m b) (hm : m ≤ 40) : bvalid b = true :=
  bvalid_iff.2 ⟨h.1, fun n hn => by rw [svalid_of hn (h.2 n hn).1]; exact decide_eq_true (by have := (h.2 n hn).2; omega)⟩
theorem tbox_valid {ts : List Te} (h : tsvalid ts = true) : bvalid (tbox ts) = true := by
  unfold tsvalid at h
  rw [Bool.and_eq_true, decide_eq_true_eq] at h
  exact (BGood.fold ts 1 ball BGood.ball h.1).valid (by omega)
/-! The unfolding. -/
def ufit (inn : List Bx) (W : Bx) : List Bx := (inn.map (fun b => bmeet b W)).filter (fun m => !bempty m)
def umiss (inn : List Bx) (W : Bx) : List Bx := inn.flatMap (fun b => bcut b W)
abbrev UfR := Option (List Bx × List Ft)
def ufAct (rec : Nat → List Bx → List Ft → UfR) (r : Ru) (fit miss left : List Bx) (out : List Ft) : Option (List Bx × List Bx × List Ft) :=
  if r.act = 1 ∨ r.act = 2 then some (miss, left, out ++ fit.map (fun b => ⟨b, r.act == 1⟩))
  else if r.act = 4 then some (miss, left ++ fit, out)
  else if r.act = 3 then (rec r.ch.toNat fit out).map (fun q => (miss ++ q.1, left, q.2))
  else some (miss ++ fit, left, out)
def ufGo (rec : Nat → List Bx → List Ft → UfR) : List Ru → List Bx → List Bx → List Ft → UfR
  | [], inn, left, out => if rvalid (left ++ inn) then some (left ++ inn, out) else none
  | r :: rs, inn, left, out =>
    if rvalid (ufit inn (tbox r.ts)) && rvalid (umiss inn (tbox r.ts)) then
      match ufAct rec r (ufit inn (tbox r.ts)) (umiss inn (tbox r.ts)) left out with
      | none => none
      | some (inn', left', out') => if rvalid inn' && decide (out'.length ≤ 60) then ufGo rec rs inn' left' out' else none
    else none
def ufWalk (cs : List (List Ru)) : Nat → Nat → List Bx → List Ft → UfR
  | 0, _, _, _ => none
  | f + 1, c, inn, out => ufGo (ufWalk cs f) (cs.getD c []) inn [] out
theorem rvalid_iff {l : List Bx} : rvalid l = true ↔ l.length ≤ 400 ∧ ∀ z, z ∈ l → bvalid z = true := by
  unfold rvalid
  rw [Bool.and_eq_true, decide_eq_true_eq, List.all_eq_true]
theorem ufGo_nil {rec : Nat → List Bx → List Ft → UfR} : ∀ (rs : List Ru) (out : List Ft), out.length ≤ 60 → (∀ r, r ∈ rs → r.act = 3 → rec r.ch.toNat [] out = some ([], out)) → ufGo rec rs [] [] out = some ([], out)
  | [], out, _, _ => by unfold ufGo; rfl
  | r :: rs, out, ho, h => by
    unfold ufGo
    have h1 : ufit [] (tbox r.ts) = [] := rfl
    have h2 : umiss [] (tbox r.ts) = [] := rfl
    have h3 : rvalid [] = true := rfl
    rw [h1, h2, h3]
    have h4 : ufAct rec r [] [] [] out = some ([], [], out) := by
      unfold ufAct
      split
      · simp
      · split
        · rfl
        · split
          · rename_i h3
            rw [h r List.mem_cons_self h3]; rfl
          · rfl
    simp only [h4, Bool.and_true, if_true, h3, decide_eq_true ho]
    exact ufGo_nil rs out ho (fun r hr => h r (List.mem_cons_of_mem _ hr))
theorem ufWalk_nil {cs : List (List Ru)} (hc : CallsIn cs) : ∀ (f c : Nat) (out : List Ft), Ht cs f c → out.length ≤ 60 → ufWalk cs f c [] out = some ([], out)
  | 0, _, _, h, _ => h.elim
  | f + 1, c, out, h, ho => by
    unfold ufWalk
    refine ufGo_nil _ out ho (fun r hr ha => ?_)
    obtain ⟨h0, h5, hn⟩ := hc _ (getD_mem hr) r hr ha
    exact ufWalk_nil hc f _ out (h _ (callsAt_mem.2 ⟨by omega, r, hr, ha, by omega⟩)) ho
theorem ufit_len (inn : List Bx) (W : Bx) : (ufit inn W).length ≤ inn.length := by
  unfold ufit
  exact Nat.le_trans (List.length_filter_le _ _) (by simp)
theorem umiss_append (a b : List Bx) (W : Bx) : umiss (a ++ b) W = umiss a W ++ umiss b W := by unfold umiss; rw [List.flatMap_append]
theorem ufit_append (a b : List Bx) (W : Bx) : ufit (a ++ b) W = ufit a W ++ ufit b W := by unfold ufit; rw [List.map_append, List.filter_append]
theorem ufit_take {inn : List Bx} {W b : Bx} {k : Nat} (h : inn[k]? = some b) : ufit (inn.take (k + 1)) W = ufit (inn.take k) W ++ (if bempty (bmeet b W) then [] else [bmeet b W]) := by
  rw [List.take_add_one, h, ufit_append]
  congr 1
  unfold ufit
  cases e : bempty (bmeet b W) <;> simp [e]
theorem umiss_take {inn : List Bx} {W b : Bx} {k : Nat} (h : inn[k]? = some b) : umiss (inn.take (k + 1)) W = umiss (inn.take k) W ++ bcut b W := by
  rw [List.take_add_one, h, umiss_append]
  congr 1
  unfold umiss
  simp
/-- The rules that come out have valid boxes, and are not too many. -/
def OutOk (out : List Ft) : Prop := out.length ≤ 60 ∧ ∀ f, f ∈ out → bvalid f.box = true
theorem ufGo_out {rec : Nat → List Bx → List Ft → UfR} (hrec : ∀ c i o i' o', rec c i o = some (i', o') → rvalid i = true → OutOk o → rvalid i' = true ∧ OutOk o') :
    ∀ (rs : List Ru) (inn left : List Bx) (out : List Ft) (i : List Bx) (o : List Ft), ufGo rec rs inn left out = some (i, o) → OutOk out → rvalid i = true ∧ OutOk o
  | [], inn, left, out, i, o, h, ho => by
    unfold ufGo at h
    split at h
    · rename_i h2
      cases h; exact ⟨h2, ho⟩
    · cases h
  | r :: rs, inn, left, out, i, o, h, ho => by
    unfold ufGo at h
    split at h
    · rename_i h1
      rw [Bool.and_eq_true] at h1
      cases ha : ufAct rec r (ufit inn (tbox r.ts)) (umiss inn (tbox r.ts)) left out with
      | none => rw [ha] at h; cases h
      | some q =>
        obtain ⟨i1, l1, o1⟩ := q
        rw [ha] at h
        simp only at h
        split at h
        · rename_i h2
          rw [Bool.and_eq_true, decide_eq_true_eq] at h2
          refine ufGo_out hrec rs _ _ _ _ _ h ⟨h2.2, ?_⟩
          unfold ufAct at ha
          split at ha
          · cases ha
            intro f hf
            rcases List.mem_append.1 hf with hf | hf
            · exact ho.2 f hf
            · obtain ⟨b, hb, rfl⟩ := List.mem_map.1 hf
              exact (rvalid_iff.1 h1.1).2 b hb
          · split at ha
            · cases ha; exact ho.2
            · split at ha
              · cases hq : rec r.ch.toNat (ufit inn (tbox r.ts)) out with
                | none => rw [hq] at ha; cases ha
                | some q =>
                  rw [hq] at ha
                  cases ha
                  exact (hrec _ _ _ _ _ hq h1.1 ho).2.2
              · cases ha; exact ho.2
        · cases h
    · cases h
theorem ufWalk_out {cs : List (List Ru)} : ∀ (f c : Nat) (inn : List Bx) (out : List Ft) (i : List Bx) (o : List Ft), ufWalk cs f c inn out = some (i, o) → rvalid inn = true → OutOk out → rvalid i = true ∧ OutOk o
  | 0, _, _, _, _, _, h, _, _ => by cases h
  | f + 1, c, inn, out, i, o, h, hi, ho => by
    unfold ufWalk at h
    exact ufGo_out (fun c i o i' o' h hi ho => ufWalk_out f c i o i' o' h hi ho) _ _ _ _ _ _ h ho
end Go.Proofs.YtfcbbahlhjdefaaDoor
