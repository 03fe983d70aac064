/- TableShrink keeps every answer, and is done after one round: plain laws. -/
import Derived.Test.YtfnfpekjjmejnaaTbSh
namespace Go.Proofs.Ytfnfpekjjmejnaa
open Go.RowKit
theorem tv_pw (xs : List En) : tvalid xs = true ↔ xs.length ≤ 30 ∧ (∀ x ∈ xs, x.ok = true) ∧ xs.Pairwise (fun y x => y.w.lt x.w = true) := by
  rw [tvalid_iff]
  refine and_congr Iff.rfl ⟨fun h => ⟨fun x hx => ?_, ?_⟩, fun h i x hi hx => ⟨h.1 x (List.mem_of_getElem? hx), fun j y hj hy => ?_⟩⟩
  · obtain ⟨i, hi, rfl⟩ := List.getElem_of_mem hx
    exact tgood_ok h (List.getElem?_eq_getElem hi)
  · rw [List.pairwise_iff_getElem]
    intro i j hi hj hij
    exact tgood_lt h i (j - i - 1) _ _ (List.getElem?_eq_getElem hi) (by rw [show i + (j - i - 1) + 1 = j by omega]; exact List.getElem?_eq_getElem hj)
  · obtain ⟨hj1, rfl⟩ := List.getElem?_eq_some_iff.1 hy
    obtain ⟨hi1, rfl⟩ := List.getElem?_eq_some_iff.1 hx
    exact List.pairwise_iff_getElem.1 h.2 j i hj1 hi1 (by omega)
theorem shr_sub (xs : List En) : ∀ k, (shr xs k).Sublist (xs.take k)
  | 0 => by simp [shr]
  | k + 1 => by
    have ih := shr_sub xs k
    rw [List.take_add_one]
    simp only [shr]
    cases hx : xs[k]? with
    | none => simpa using ih
    | some e =>
      simp only [Option.toList_some]
      split
      · exact ih.trans (List.sublist_append_left _ _)
      · exact ih.append (List.Sublist.refl _)
theorem tshrink_sub {xs : List En} (hv : tvalid xs = true) : (tshrink xs).Sublist xs := by
  have := shr_sub xs xs.length
  rw [List.take_length] at this
  rw [tshrink, if_pos hv]
  exact this
theorem tshrink_valid {xs : List En} (hv : tvalid xs = true) : tvalid (tshrink xs) = true := by
  obtain ⟨h1, h2, h3⟩ := (tv_pw xs).1 hv
  have hs := tshrink_sub hv
  exact (tv_pw _).2 ⟨Nat.le_trans hs.length_le h1, fun x hx => h2 x (hs.subset hx), h3.sublist hs⟩
theorem mem_shr {xs : List En} {z : En} : ∀ k, z ∈ shr xs k ↔ ∃ i, i < k ∧ xs[i]? = some z ∧ valAt xs (sf xs z.w i xs.length) ≠ z.v
  | 0 => by simp [shr]
  | k + 1 => by
    have ih := mem_shr (xs := xs) (z := z) k
    have old : (∃ i, i < k ∧ xs[i]? = some z ∧ valAt xs (sf xs z.w i xs.length) ≠ z.v) → ∃ i, i < k + 1 ∧ xs[i]? = some z ∧ valAt xs (sf xs z.w i xs.length) ≠ z.v := fun ⟨i, h1, h2⟩ => ⟨i, by omega, h2⟩
    simp only [shr]
    cases hx : xs[k]? with
    | none =>
      simp only
      rw [ih]
      refine ⟨old, fun ⟨i, h1, h2, h3⟩ => ⟨i, ?_, h2, h3⟩⟩
      rcases (by omega : i < k ∨ i = k) with h | rfl
      · exact h
      · rw [hx] at h2; cases h2
    | some e =>
      simp only
      split
      · rename_i hc
        rw [ih]
        refine ⟨old, fun ⟨i, h1, h2, h3⟩ => ⟨i, ?_, h2, h3⟩⟩
        rcases (by omega : i < k ∨ i = k) with h | rfl
        · exact h
        · rw [hx] at h2; cases h2; exact absurd hc h3
      · rename_i hc
        rw [List.mem_append, ih, List.mem_singleton]
        constructor
        · rintro (h | rfl)
          · exact old h
          · exact ⟨k, by omega, hx, hc⟩
        · rintro ⟨i, h1, h2, h3⟩
          rcases (by omega : i < k ∨ i = k) with h | rfl
          · exact .inl ⟨i, h, h2, h3⟩
          · rw [hx] at h2; cases h2; exact .inr rfl
theorem mem_tshrink {xs : List En} (hv : tvalid xs = true) {z : En} : z ∈ tshrink xs ↔ z ∈ xs ∧ best (valsOf xs) z.w.b.toNat z.w.l.toNat ≠ z.v := by
  rw [tshrink, if_pos hv, mem_shr]
  constructor
  · rintro ⟨i, _, h2, h3⟩
    exact ⟨List.mem_of_getElem? h2, by rw [← shr_best hv h2]; exact h3⟩
  · rintro ⟨h1, h2⟩
    obtain ⟨i, hi, rfl⟩ := List.getElem_of_mem h1
    have hx := List.getElem?_eq_getElem hi
    exact ⟨i, hi, hx, by rw [shr_best hv hx]; exact h2⟩
theorem pth_up {a b D d : Nat} (hD : D ≤ 16) (hd : d ≤ D) (h : pth a D = pth b D) : pth a d = pth b d := by
  simp only [pth, Prod.mk.injEq, true_and] at h ⊢
  have e : 2 ^ (16 - d) = 2 ^ (16 - D) * 2 ^ (D - d) := by rw [← Nat.pow_add, show 16 - D + (D - d) = 16 - d by omega]
  rw [e, ← Nat.div_div_eq_div_mul, ← Nat.div_div_eq_div_mul, h]
theorem best_congr (val : Path → Int) {a b : Nat} : ∀ D, (∀ d, d < D → pth a d = pth b d) → best val a D = best val b D
  | 0, _ => rfl
  | D + 1, h => by
    simp only [best]
    rw [h D (by omega), best_congr val D (fun d hd => h d (by omega))]
theorem vals_mem {xs : List En} (hv : tvalid xs = true) {e : En} (he : e ∈ xs) : valsOf xs e.path = e.v := by
  obtain ⟨i, hi, rfl⟩ := List.getElem_of_mem he
  exact valsOf_get ((tvalid_iff xs).1 hv).2 (List.getElem?_eq_getElem hi)
theorem path_one {xs : List En} (hv : tvalid xs = true) {e z : En} (he : e ∈ xs) (hz : z ∈ xs) (h : e.path = z.path) : e = z := by
  have hg := ((tvalid_iff xs).1 hv).2
  obtain ⟨i, hi, rfl⟩ := List.getElem_of_mem he
  obtain ⟨j, hj, rfl⟩ := List.getElem_of_mem hz
  have h1 := List.getElem?_eq_getElem hi
  have h2 := List.getElem?_eq_getElem hj
  have := path_inj (en_ok (tgood_ok hg h1)).1 (en_ok (tgood_ok hg h2)).1 h
  have := tgood_inj hg h1 h2 this
  subst this
  rfl
theorem shr_val {xs : List En} (hv : tvalid xs = true) {a : Nat} : ∀ D, D ≤ 17 → best (valsOf (tshrink xs)) a D = best (valsOf xs) a D
  | 0, _ => rfl
  | D + 1, hD => by
    have ih := shr_val hv (a := a) D (by omega)
    have hg := ((tvalid_iff xs).1 hv).2
    have hsub := tshrink_sub hv
    have hv' := tshrink_valid hv
    simp only [best]
    by_cases hex : ∃ e ∈ xs, e.path = pth a D
    · obtain ⟨e, he, hp⟩ := hex
      have h1 : valsOf xs (pth a D) = e.v := by rw [← hp]; exact vals_mem hv he
      obtain ⟨i, hi, hie⟩ := List.getElem_of_mem he
      obtain ⟨_, hv0, _⟩ := en_ok (tgood_ok hg (hie ▸ List.getElem?_eq_getElem hi : xs[i]? = some e))
      have hl : e.w.l.toNat = D := by simp only [En.path, pth, Prod.mk.injEq] at hp; exact hp.1
      have hb : best (valsOf xs) e.w.b.toNat e.w.l.toNat = best (valsOf xs) a D := by
        rw [hl]
        refine best_congr _ D (fun d hd => pth_up (D := D) (by omega) (by omega) ?_)
        have := hp
        simp only [En.path, hl] at this
        exact this
      rw [h1, if_pos hv0]
      by_cases hk : best (valsOf xs) a D = e.v
      · have hno : ∀ z ∈ tshrink xs, z.path ≠ pth a D := by
          intro z hz hzp
          have : z = e := path_one hv (hsub.subset hz) he (hzp.trans hp.symm)
          subst this
          exact ((mem_tshrink hv).1 hz).2 (hb.trans hk)
        rw [valsOf_none _ hno, if_neg (by omega), ih, hk]
      · have hin : e ∈ tshrink xs := (mem_tshrink hv).2 ⟨he, by rw [hb]; exact hk⟩
        have h2 : valsOf (tshrink xs) (pth a D) = e.v := by rw [← hp]; exact vals_mem hv' hin
        rw [h2, if_pos hv0]
    · have hno : ∀ z ∈ xs, z.path ≠ pth a D := fun z hz hp => hex ⟨z, hz, hp⟩
      rw [valsOf_none _ hno, valsOf_none _ (fun z hz => hno z (hsub.subset hz)), if_neg (by omega), if_neg (by omega), ih]
theorem tfind_shrink {xs : List En} (hv : tvalid xs = true) (a : Int) : tfind (tshrink xs) a = tfind xs a := by
  cases h : inB a 0 65535
  · simp [tfind, h]
  · obtain ⟨h0, h1⟩ := inB_iff.1 h
    obtain ⟨n, rfl⟩ := Int.eq_ofNat_of_zero_le h0
    rw [tfind_best (tshrink_valid hv) (by omega), tfind_best hv (by omega), shr_val hv 17 (by omega)]
theorem shr_all {zs : List En} (h : ∀ (i : Nat) e, zs[i]? = some e → valAt zs (sf zs e.w i zs.length) ≠ e.v) : ∀ k, shr zs k = zs.take k
  | 0 => by simp [shr]
  | k + 1 => by
    have ih := shr_all h k
    rw [List.take_add_one]
    simp only [shr]
    cases hx : zs[k]? with
    | none => simpa using ih
    | some e => simp only [Option.toList_some]; rw [if_neg (h k e hx), ih]
theorem tshrink_twice {xs : List En} (hv : tvalid xs = true) : tshrink (tshrink xs) = tshrink xs := by
  have hv' := tshrink_valid hv
  conv => lhs; rw [tshrink, if_pos hv']
  rw [shr_all (fun i e hx => ?_), List.take_length]
  have hm := List.mem_of_getElem? hx
  obtain ⟨hw, _, _⟩ := en_ok (tgood_ok ((tvalid_iff _).1 hv').2 hx)
  obtain ⟨⟨g0, g1⟩, ⟨g2, g3⟩, _⟩ := (pf_ok_iff _).1 hw
  rw [shr_best hv' hx, shr_val hv _ (by omega)]
  exact ((mem_tshrink hv).1 hm).2
end Go.Proofs.Ytfnfpekjjmejnaa
