/- An entry for all addresses, and one that says what is said anyway: plain laws. -/
import Derived.Test.YtfnfpekjjmejnaaPutF
namespace Go.Proofs.Ytfnfpekjjmejnaa
open Go.RowKit
theorem whole_best {val : Path → Int} {a : Nat} (ha : a ≤ 65535) (h0 : val (0, 0) < 0) : ∀ D, best (updV val (0, 0) 7) a (D + 1) = if 0 ≤ best val a (D + 1) then best val a (D + 1) else 7
  | 0 => by
    simp only [best, pth_zero ha]
    have h1 : updV val (0, 0) 7 (0, 0) = 7 := if_pos rfl
    rw [h1, if_pos (by omega), if_neg (show ¬ 0 ≤ val (0, 0) by omega), if_neg (by omega)]
  | D + 1 => by
    have ih := whole_best ha h0 D
    have hne : pth a (D + 1) ≠ (0, 0) := fun h => by simp [pth] at h
    have h1 : updV val (0, 0) 7 (pth a (D + 1)) = val (pth a (D + 1)) := if_neg hne
    rw [show D + 1 + 1 = (D + 1) + 1 from rfl]
    conv => lhs; unfold best
    conv => rhs; unfold best
    rw [h1, ih]
    by_cases hv : 0 ≤ val (pth a (D + 1))
    · rw [if_pos hv, if_pos hv, if_pos hv]
    · rw [if_neg hv, if_neg hv]
theorem first_least {xs : List En} (hv : tvalid xs = true) (h : ∀ x, xs[0]? = some x → x.w ≠ ⟨0, 0⟩) : ∀ x ∈ xs, x.w ≠ ⟨0, 0⟩ := by
  intro z hz he
  obtain ⟨i, hi, rfl⟩ := List.getElem_of_mem hz
  have hg := ((tvalid_iff xs).1 hv).2
  cases i with
  | zero => exact h _ (List.getElem?_eq_getElem hi) he
  | succ i =>
    have h0 := List.getElem?_eq_getElem (show 0 < xs.length by omega)
    have hlt := tgood_lt hg 0 i _ _ h0 (by rw [Nat.zero_add]; exact List.getElem?_eq_getElem hi)
    have hok := (pf_ok_iff _).1 (en_ok (tgood_ok hg h0)).1
    rw [he] at hlt
    simp only [Pf.lt, Bool.or_eq_true, decide_eq_true_eq, Bool.and_eq_true] at hlt
    omega
theorem whole_find {xs : List En} (hv : tvalid xs = true) (hn : ∀ x ∈ xs, x.w ≠ ⟨0, 0⟩) (hl : foundAt xs ⟨0, 0⟩ = false → xs.length < 30) {a : Int} (ha : inB a 0 65535 = true) :
    tfind (putL xs ⟨⟨0, 0⟩, 7⟩) a = if 0 ≤ tfind xs a then tfind xs a else 7 := by
  obtain ⟨h0, h1⟩ := inB_iff.1 ha
  obtain ⟨m, rfl⟩ := Int.eq_ofNat_of_zero_le h0
  have he : En.ok ⟨⟨0, 0⟩, 7⟩ = true := by decide
  rw [tfind_best (putL_valid hv he hl) (by omega), tfind_best hv (by omega), putL_vals hv he hl]
  have hp : En.path ⟨⟨0, 0⟩, 7⟩ = (0, 0) := by simp [En.path, pth]
  rw [hp]
  refine whole_best (by omega) ?_ 16
  rcases vals_ext hv (0, 0) with ⟨x, hx, hxp, _⟩ | ⟨_, hval⟩
  · exfalso
    refine hn x hx (path_inj (ok_of hv hx) (by decide) ?_)
    have : pth x.w.b.toNat x.w.l.toNat = (0, 0) := hxp
    rw [this]; simp [pth]
  · rw [hval]; omega
theorem pw_ext : ∀ {xs ys : List En}, xs.Pairwise (fun y x => y.w.lt x.w = true) → ys.Pairwise (fun y x => y.w.lt x.w = true) → (∀ z, z ∈ xs ↔ z ∈ ys) → xs = ys
  | [], [], _, _, _ => rfl
  | [], y :: ys, _, _, h => by have := (h y).2 (by simp); cases this
  | x :: xs, [], _, _, h => by have := (h x).1 (by simp); cases this
  | x :: xs, y :: ys, hx, hy, h => by
    rw [List.pairwise_cons] at hx hy
    have irr : ∀ z : En, z.w.lt z.w = true → False := fun z hz => lt_ne hz rfl
    have hxy : x = y := by
      rcases List.mem_cons.1 ((h x).1 (by simp)) with h1 | h1
      · exact h1
      · rcases List.mem_cons.1 ((h y).2 (by simp)) with h2 | h2
        · exact h2.symm
        · exact (irr x (lt_trans' (hx.1 y h2) (hy.1 x h1))).elim
    subst hxy
    rw [pw_ext hx.2 hy.2 (fun z => ⟨fun hz => ?_, fun hz => ?_⟩)]
    · rcases List.mem_cons.1 ((h z).1 (by simp [hz])) with h1 | h1
      · subst h1; exact (irr z (hx.1 z hz)).elim
      · exact h1
    · rcases List.mem_cons.1 ((h z).2 (by simp [hz])) with h1 | h1
      · subst h1; exact (irr z (hy.1 z hz)).elim
      · exact h1
section
variable {xs : List En} (hv : tvalid xs = true) {m k : Nat} (hk : k ≤ 16) (hm : m ≤ 65535) (h0 : m % 2 ^ (16 - k) = 0) (hin : ∀ z ∈ xs, Pf.within z.w ⟨(m : Int), (k : Int)⟩ = false)
include hv hk hm h0 hin
theorem inner_none {z : En} (hz : z ∈ xs) {A d : Nat} (hd : k ≤ d) (hA : pth A k = pth m k) : z.path ≠ pth A d := by
  intro hp
  have hzok := ok_of hv hz
  obtain ⟨zm, zk, hzw, hzk, hzm, -⟩ := pf_nat' hzok
  have hpok := full_part (m := m) (j := k) (k := k) hk (Nat.le_refl _) hm h0
  have hw := hin z hz
  have hp' : pth z.w.b.toNat z.w.l.toNat = pth A d := hp
  rw [hzw] at hp'
  simp only [Int.toNat_natCast] at hp'
  obtain rfl : zk = d := congrArg Prod.fst hp'
  have : Pf.within z.w ⟨(m : Int), (k : Int)⟩ = true := by
    rw [within_path hzok hpok, hzw]
    refine ⟨by simp only; omega, ?_⟩
    simp only [Int.toNat_natCast]
    rw [← hA]
    exact (pth_up hzk hd hp').symm
  rw [this] at hw; cases hw
theorem equal_low {A : Nat} (hA : pth A k = pth m k) : best (valsOf xs) A 17 = best (valsOf xs) m k := by
  have hneg : ∀ j, k ≤ j → valsOf xs (pth A j) < 0 := fun j hj => by
    rcases vals_ext hv (pth A j) with ⟨z, hz, hp, _⟩ | ⟨_, hval⟩
    · exact absurd hp (inner_none hv hk hm h0 hin hz hj hA)
    · rw [hval]; omega
  have h1 : best (valsOf xs) A 17 = best (valsOf xs) A (k + 1) := by
    have := best_up (val := valsOf xs) (a := A) (d := k) (16 - k) (fun j h1 _ => hneg j (by omega))
    rwa [show k + 1 + (16 - k) = 17 by omega] at this
  rw [h1]
  simp only [best]
  rw [if_neg (by have := hneg k (Nat.le_refl _); omega)]
  exact best_congr _ k (fun d hd => pth_up hk (by omega) hA)
theorem equal_put {v : Int} (hv0 : 0 ≤ v) (hv1 : v ≤ 99) (hl : foundAt xs ⟨(m : Int), (k : Int)⟩ = false → xs.length < 30) {A : Nat} (hA : pth A k = pth m k) : best (valsOf (putL xs ⟨⟨(m : Int), (k : Int)⟩, v⟩)) A 17 = v := by
  have hpok := full_part (m := m) (j := k) (k := k) hk (Nat.le_refl _) hm h0
  have he : En.ok ⟨⟨(m : Int), (k : Int)⟩, v⟩ = true := by simp only [En.ok, hpok, Bool.true_and]; exact inB_true hv0 hv1
  have hpath : En.path ⟨⟨(m : Int), (k : Int)⟩, v⟩ = pth m k := by simp [En.path]
  rw [putL_vals hv he hl, hpath]
  have h1 : best (updV (valsOf xs) (pth m k) v) A 17 = best (updV (valsOf xs) (pth m k) v) A (k + 1) := by
    have := best_up (val := updV (valsOf xs) (pth m k) v) (a := A) (d := k) (16 - k) (fun j h1 _ => by
      rw [show updV (valsOf xs) (pth m k) v (pth A j) = valsOf xs (pth A j) from if_neg (fun h => by have := congrArg Prod.fst h; simp [pth] at this; omega)]
      rcases vals_ext hv (pth A j) with ⟨z, hz, hp, _⟩ | ⟨_, hval⟩
      · exact absurd hp (inner_none hv hk hm h0 hin hz (by omega) hA)
      · rw [hval]; omega)
    rwa [show k + 1 + (16 - k) = 17 by omega] at this
  rw [h1]
  simp only [best]
  rw [show updV (valsOf xs) (pth m k) v (pth A k) = v from if_pos hA, if_pos hv0]
theorem equal_shrink {v : Int} (hv0 : 0 ≤ v) (hv1 : v ≤ 99) (hl : foundAt xs ⟨(m : Int), (k : Int)⟩ = false → xs.length < 30) (hb : best (valsOf xs) m k = v) : tshrink (putL xs ⟨⟨(m : Int), (k : Int)⟩, v⟩) = tshrink xs := by
  have hpok := full_part (m := m) (j := k) (k := k) hk (Nat.le_refl _) hm h0
  have he : En.ok ⟨⟨(m : Int), (k : Int)⟩, v⟩ = true := by simp only [En.ok, hpok, Bool.true_and]; exact inB_true hv0 hv1
  have hpath : En.path ⟨⟨(m : Int), (k : Int)⟩, v⟩ = pth m k := by simp [En.path]
  have hvx := putL_valid hv he hl
  refine pw_ext ((tv_pw _).1 (tshrink_valid hvx)).2.2 ((tv_pw _).1 (tshrink_valid hv)).2.2 (fun z => ?_)
  rw [mem_tshrink hvx, mem_tshrink hv, putL_mem hv, putL_vals hv he hl, hpath]
  constructor
  · rintro ⟨rfl | ⟨hz, _⟩, hne⟩
    · exfalso
      refine hne ?_
      simp only [Int.toNat_natCast]
      rw [best_upd_same k (fun d hd h => by have := congrArg Prod.fst h; simp [pth] at this; omega), hb]
    · refine ⟨hz, ?_⟩
      rwa [best_upd_same _ (fun d hd h => ?_)] at hne
      have hdk : d = k := congrArg Prod.fst h
      subst hdk
      have hzok := ok_of hv hz
      obtain ⟨zm, zk, hzw, hzk, hzm, -⟩ := pf_nat' hzok
      refine inner_none hv hk hm h0 hin hz (A := z.w.b.toNat) (d := z.w.l.toNat) (by omega) h rfl
  · rintro ⟨hz, hne⟩
    have hzw : z.w ≠ ⟨(m : Int), (k : Int)⟩ := fun h => by
      refine inner_none hv hk hm h0 hin hz (A := m) (d := k) (Nat.le_refl _) rfl ?_
      unfold En.path; rw [h]; simp
    refine ⟨.inr ⟨hz, hzw⟩, ?_⟩
    rwa [best_upd_same _ (fun d hd h => ?_)]
    have hdk : d = k := congrArg Prod.fst h
    subst hdk
    exact inner_none hv hk hm h0 hin hz (A := z.w.b.toNat) (d := z.w.l.toNat) (by omega) h rfl
end
end Go.Proofs.Ytfnfpekjjmejnaa
