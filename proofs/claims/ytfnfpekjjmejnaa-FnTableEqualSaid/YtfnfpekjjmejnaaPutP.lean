/- What a put entry changes: plain laws. -/
import Derived.Test.YtfnfpekjjmejnaaTbPr
import Derived.Test.YtfnfpekjjmejnaaLTD
namespace Go.Proofs.Ytfnfpekjjmejnaa
open Go.RowKit
theorem lt_total {a b : Pf} (h : a.lt b = false) (hne : a ≠ b) : b.lt a = true := by
  cases a; cases b
  simp only [Pf.lt, Bool.or_eq_false_iff, decide_eq_false_iff_not, Bool.and_eq_false_iff, Bool.or_eq_true, decide_eq_true_eq, Bool.and_eq_true] at *
  simp only [ne_eq, Pf.mk.injEq] at hne
  omega
/-- The list with the entry. -/
def putL (xs : List En) (e : En) : List En := if foundAt xs e.w then xs.set (place xs e.w) e else xs.take (place xs e.w) ++ [e] ++ xs.drop (place xs e.w)
theorem tput_yes {xs : List En} {e : En} (h : (tput xs e).2 = true) : tvalid xs = true ∧ e.ok = true ∧ (tput xs e).1 = putL xs e ∧ (foundAt xs e.w = false → xs.length < 30) := by
  unfold tput at h ⊢
  split at h
  · rename_i hv
    simp only [Bool.and_eq_true] at hv
    rw [if_pos (by simp [hv])]
    have h30 := ((tvalid_iff xs).1 hv.1).1
    refine ⟨hv.1, hv.2, ?_, ?_⟩
    · unfold putL foundAt
      by_cases hf : (xs[place xs e.w]?).map (·.w) = some e.w
      · simp only [hf, if_true, decide_true]
      · simp only [hf, if_false] at h
        by_cases hne : xs.length = 30
        · simp [hne] at h
        · simp only [hf, hne, if_false, decide_false, Bool.false_eq_true]
    · intro hf
      simp only [foundAt, decide_eq_false_iff_not] at hf
      rw [if_neg hf] at h
      split at h
      · cases h
      · omega
  · cases h
theorem tput_no {xs : List En} {e : En} (h : (tput xs e).2 = false) : (tput xs e).1 = [] ∨ (tput xs e).1 = xs := by
  unfold tput at h ⊢
  split at h
  · rename_i hv
    rw [if_pos hv]
    split at h
    · cases h
    · rename_i hne
      rw [if_neg hne]
      split at h
      · rename_i h30; rw [if_pos h30]; exact .inr rfl
      · cases h
  · rename_i hv
    rw [if_neg hv]; exact .inl rfl
/-- The parts of a list at the place of a prefix. -/
theorem put_parts {xs : List En} (hv : tvalid xs = true) (p : Pf) : ∃ la lb lc : List En, xs = la ++ lb ++ lc ∧ place xs p = la.length ∧ (∀ x ∈ la, x.w.lt p = true) ∧ (∀ x ∈ lc, p.lt x.w = true) ∧ ((foundAt xs p = false ∧ lb = []) ∨ ∃ y, foundAt xs p = true ∧ lb = [y] ∧ y.w = p) := by
  have hg := ((tvalid_iff xs).1 hv).2
  have hple := place_le p xs
  have hA : ∀ x ∈ xs.take (place xs p), x.w.lt p = true := fun x hx => by
    obtain ⟨i, hi, rfl⟩ := List.getElem_of_mem hx
    rw [List.length_take] at hi
    have h2 : xs[i]? = some (xs.take (place xs p))[i] := by rw [List.getElem_take, List.getElem?_eq_getElem (by omega)]
    exact place_lt xs i _ (by omega) h2
  by_cases hlt : place xs p < xs.length
  · have hy := List.getElem?_eq_getElem hlt
    have h0 := place_ge xs _ hy
    have hC : ∀ x ∈ xs.drop (place xs p + 1), (xs[place xs p]).w.lt x.w = true := fun x hx => by
      obtain ⟨i, hi, rfl⟩ := List.getElem_of_mem hx
      rw [List.length_drop] at hi
      have h2 : xs[place xs p + i + 1]? = some (xs.drop (place xs p + 1))[i] := by
        rw [List.getElem_drop, List.getElem?_eq_getElem (by omega)]
        congr 2; omega
      exact tgood_lt hg _ i _ _ hy h2
    by_cases hf : xs[place xs p].w = p
    · refine ⟨xs.take (place xs p), [xs[place xs p]], xs.drop (place xs p + 1), ?_, by rw [List.length_take]; omega, hA, fun x hx => by rw [← hf]; exact hC x hx, .inr ⟨_, ?_, rfl, hf⟩⟩
      · rw [List.append_assoc, List.singleton_append, ← List.drop_eq_getElem_cons hlt, List.take_append_drop]
      · simp [foundAt, hy, hf]
    · have hpy := lt_total h0 hf
      refine ⟨xs.take (place xs p), [], xs.drop (place xs p), by simp, by rw [List.length_take]; omega, hA, fun x hx => ?_, .inl ⟨?_, rfl⟩⟩
      · rw [List.drop_eq_getElem_cons hlt] at hx
        rcases List.mem_cons.1 hx with rfl | hx
        · exact hpy
        · exact lt_trans' hpy (hC x hx)
      · simp [foundAt, hy, hf]
  · refine ⟨xs.take (place xs p), [], xs.drop (place xs p), by simp, by rw [List.length_take]; omega, hA, fun x hx => ?_, .inl ⟨?_, rfl⟩⟩
    · rw [List.drop_eq_nil_of_le (by omega)] at hx; cases hx
    · simp only [foundAt]; rw [List.getElem?_eq_none (by omega)]; simp
theorem place_split {la lc : List En} {p : Pf} (hA : ∀ x ∈ la, x.w.lt p = true) (hC : ∀ x, lc[0]? = some x → x.w.lt p = false) : place (la ++ lc) p = la.length := by
  refine place_eq (la ++ lc) la.length (fun i x hi hx => ?_) ?_ (by simp)
  · rw [List.getElem?_append_left hi] at hx
    exact hA x (List.mem_of_getElem? hx)
  · by_cases h : lc = []
    · subst h; exact .inl (by simp)
    · obtain ⟨c, lc', rfl⟩ := List.exists_cons_of_ne_nil h
      exact .inr ⟨c, by simp, hC c rfl⟩
/-- The list with the entry, in parts. -/
theorem putL_parts {xs : List En} (hv : tvalid xs = true) (e : En) : ∃ la lb lc : List En, xs = la ++ lb ++ lc ∧ putL xs e = la ++ [e] ++ lc ∧ (∀ x ∈ la, x.w.lt e.w = true) ∧ (∀ x ∈ lc, e.w.lt x.w = true) ∧ (∀ y ∈ lb, y.w = e.w) ∧ (foundAt xs e.w = false ∧ lb = [] ∨ foundAt xs e.w = true ∧ lb.length = 1) := by
  obtain ⟨la, lb, lc, hx, hp, hA, hC, hB⟩ := put_parts hv e.w
  refine ⟨la, lb, lc, hx, ?_, hA, hC, ?_, ?_⟩
  · unfold putL
    rw [hp]
    rcases hB with ⟨hf, rfl⟩ | ⟨y, hf, rfl, hy⟩
    · rw [hf, hx]; simp
    · rw [hf, hx]; simp
  · rcases hB with ⟨hf, rfl⟩ | ⟨y, hf, rfl, hy⟩
    · intro y hy; cases hy
    · intro z hz; simp at hz; rw [hz]; exact hy
  · rcases hB with ⟨hf, rfl⟩ | ⟨y, hf, rfl, hy⟩
    · exact .inl ⟨hf, rfl⟩
    · exact .inr ⟨hf, rfl⟩
theorem putL_valid {xs : List En} (hv : tvalid xs = true) {e : En} (he : e.ok = true) (hl : foundAt xs e.w = false → xs.length < 30) : tvalid (putL xs e) = true := by
  obtain ⟨la, lb, lc, hx, hp, hA, hC, hB, hF⟩ := putL_parts hv e
  obtain ⟨h1, h2, h3⟩ := (tv_pw xs).1 hv
  rw [hp]
  refine (tv_pw _).2 ⟨?_, fun x hxm => ?_, ?_⟩
  · rw [hx] at h1 hl
    rcases hF with ⟨hf, rfl⟩ | ⟨hf, hb⟩
    · have := hl (by rw [← hx]; exact hf); simp at *; omega
    · simp at *; omega
  · simp only [List.mem_append, List.mem_singleton] at hxm
    rcases hxm with (hxm | rfl) | hxm
    · exact h2 x (by rw [hx]; simp [hxm])
    · exact he
    · exact h2 x (by rw [hx]; simp [hxm])
  · rw [hx] at h3
    rw [List.pairwise_append] at h3 ⊢
    obtain ⟨h4, h5, h6⟩ := h3
    rw [List.pairwise_append] at h4
    refine ⟨?_, h5, ?_⟩
    · rw [List.pairwise_append]
      exact ⟨h4.1, by simp, fun x hx y hy => by simp at hy; rw [hy]; exact hA x hx⟩
    · intro x hx y hy
      simp only [List.mem_append, List.mem_singleton] at hx
      rcases hx with hx | rfl
      · exact h6 x (by simp [hx]) y hy
      · exact hC y hy
theorem putL_mem {xs : List En} (hv : tvalid xs = true) {e : En} {z : En} : z ∈ putL xs e ↔ z = e ∨ (z ∈ xs ∧ z.w ≠ e.w) := by
  obtain ⟨la, lb, lc, hx, hp, hA, hC, hB, hF⟩ := putL_parts hv e
  rw [hp, hx]
  simp only [List.mem_append, List.mem_singleton]
  constructor
  · rintro ((h | h) | h)
    · exact .inr ⟨.inl (.inl h), lt_ne (hA z h)⟩
    · exact .inl h
    · exact .inr ⟨.inr h, fun he => lt_ne (hC z h) he.symm⟩
  · rintro (h | ⟨(h | h) | h, hne⟩)
    · exact .inl (.inr h)
    · exact .inl (.inl h)
    · exact absurd (hB z h) hne
    · exact .inr h
/-- Putting again changes nothing. -/
theorem putL_again {xs : List En} (hv : tvalid xs = true) {e : En} (he : e.ok = true) (hl : foundAt xs e.w = false → xs.length < 30) : (tput (putL xs e) e).1 = putL xs e := by
  have hvx := putL_valid hv he hl
  obtain ⟨la, lb, lc, hx, hp, hA, hC, hB, hF⟩ := putL_parts hv e
  rw [hp] at hvx ⊢
  have hpl : place (la ++ [e] ++ lc) e.w = la.length := by
    rw [List.append_assoc]
    exact place_split hA (fun x h => by simp at h; rw [← h]; exact pf_lt_irrefl _)
  simp only [tput, hvx, he, Bool.and_self, if_true, hpl]
  rw [if_pos (by simp)]
  simp
theorem putL_drop {xs : List En} (hv : tvalid xs = true) {e : En} (he : e.ok = true) (hl : foundAt xs e.w = false → xs.length < 30) : tdrop (putL xs e) e.w = tdrop xs e.w := by
  have hvx := putL_valid hv he hl
  obtain ⟨la, lb, lc, hx, hp, hA, hC, hB, hF⟩ := putL_parts hv e
  rw [tdrop, if_pos hvx, tdropK_all, tdrop, if_pos hv, tdropK_all, hp]
  conv => rhs; rw [hx]
  simp only [List.filter_append]
  congr 2
  rw [List.filter_eq_nil_iff.2 (fun y hy => by simp at hy; simp [hy]), List.filter_eq_nil_iff.2 (fun y hy => by simp [hB y hy])]
theorem vals_ext {xs : List En} (hv : tvalid xs = true) (q : Path) : (∃ x ∈ xs, x.path = q ∧ valsOf xs q = x.v) ∨ ((∀ x ∈ xs, x.path ≠ q) ∧ valsOf xs q = -1) := by
  by_cases h : ∃ x ∈ xs, x.path = q
  · obtain ⟨x, hx, rfl⟩ := h
    exact .inl ⟨x, hx, rfl, vals_mem hv hx⟩
  · have h' : ∀ x ∈ xs, x.path ≠ q := fun x hx he => h ⟨x, hx, he⟩
    exact .inr ⟨h', valsOf_none xs h'⟩
theorem ok_of {xs : List En} (hv : tvalid xs = true) {x : En} (hx : x ∈ xs) : x.w.ok = true := (en_ok (((tv_pw xs).1 hv).2.1 x hx)).1
theorem putL_vals {xs : List En} (hv : tvalid xs = true) {e : En} (he : e.ok = true) (hl : foundAt xs e.w = false → xs.length < 30) : valsOf (putL xs e) = updV (valsOf xs) e.path e.v := by
  have hvx := putL_valid hv he hl
  funext q
  unfold updV
  by_cases hq : q = e.path
  · rw [if_pos hq, hq]
    exact vals_mem hvx ((putL_mem hv).2 (.inl rfl))
  · rw [if_neg hq]
    rcases vals_ext hvx q with ⟨x, hx, hp, hval⟩ | ⟨hn, hval⟩
    · rw [hval]
      rcases (putL_mem hv).1 hx with rfl | ⟨hx2, _⟩
      · exact absurd hp.symm hq
      · rw [← hp]; exact (vals_mem hv hx2).symm
    · rw [hval]
      refine (valsOf_none xs (fun x hx hxq => ?_)).symm
      refine hn x ((putL_mem hv).2 (.inr ⟨hx, fun hw => hq ?_⟩)) hxq
      rw [← hxq]; unfold En.path; rw [hw]
theorem best_upd_same {val : Path → Int} {q : Path} {v : Int} {a : Nat} : ∀ D, (∀ d, d < D → pth a d ≠ q) → best (updV val q v) a D = best val a D
  | 0, _ => rfl
  | D + 1, h => by
    simp only [best]
    rw [best_upd_same D (fun d hd => h d (by omega)), show updV val q v (pth a D) = val (pth a D) from if_neg (h D (by omega))]
theorem best_up {val : Path → Int} {a : Nat} {d : Nat} : ∀ k, (∀ j, d < j → j < d + 1 + k → val (pth a j) < 0) → best val a (d + 1 + k) = best val a (d + 1)
  | 0, _ => rfl
  | k + 1, h => by
    rw [← best_up k (fun j h1 h2 => h j h1 (by omega))]
    rw [show d + 1 + (k + 1) = (d + 1 + k) + 1 by omega]
    conv => lhs; simp only [best]
    rw [if_neg (by have := h (d + 1 + k) (by omega) (by omega); omega)]
end Go.Proofs.Ytfnfpekjjmejnaa
