/- Prefixes within prefixes: plain laws. -/
import Derived.Test.YtfnfpekjjmejnaaTp
namespace Go.Proofs.Ytfnfpekjjmejnaa
open Go.RowKit
theorem mul_lt_next {a b A : Nat} (hA : 0 < A) (ha : a % A = 0) (hb : b % A = 0) (h : a < b) : a + A ≤ b := by
  have h1 := Nat.div_add_mod a A
  have h2 := Nat.div_add_mod b A
  rw [ha, Nat.add_zero] at h1
  rw [hb, Nat.add_zero] at h2
  have h3 : a / A < b / A := by
    refine Nat.lt_of_not_le (fun hle => ?_)
    have := Nat.mul_le_mul_left A hle
    omega
  have h4 : A * (a / A + 1) ≤ A * (b / A) := Nat.mul_le_mul_left A h3
  rw [Nat.mul_add, Nat.mul_one] at h4
  omega
/-- One prefix lies within another: by lengths and digits. -/
theorem within_nat {m k m' k' : Nat} (hk : k ≤ 16) (hk' : k' ≤ 16) (hm : m % 2 ^ (16 - k) = 0) (hm' : m' % 2 ^ (16 - k') = 0) :
    (m' ≤ m ∧ m + 2 ^ (16 - k) ≤ m' + 2 ^ (16 - k')) ↔ (k' ≤ k ∧ m - m % 2 ^ (16 - k') = m') := by
  have hA : 0 < 2 ^ (16 - k) := Nat.two_pow_pos _
  have hB : 0 < 2 ^ (16 - k') := Nat.two_pow_pos _
  constructor
  · rintro ⟨h1, h2⟩
    have hle : 2 ^ (16 - k) ≤ 2 ^ (16 - k') := by omega
    have hk2 : 16 - k ≤ 16 - k' := (Nat.pow_le_pow_iff_right (by omega)).1 hle
    refine ⟨by omega, ?_⟩
    generalize 2 ^ (16 - k') = B at *
    have h3 : m = m' + (m - m') := by omega
    have h4 : m % B = m - m' := by
      rw [h3, Nat.add_mod, hm', Nat.zero_add, Nat.mod_mod, Nat.mod_eq_of_lt (by omega)]
      omega
    omega
  · rintro ⟨h1, h2⟩
    have hd : 2 ^ (16 - k') = 2 ^ (16 - k) * 2 ^ (k - k') := by rw [← Nat.pow_add]; congr 1; omega
    have hlt := Nat.mod_lt m hB
    have hle := Nat.mod_le m (2 ^ (16 - k'))
    refine ⟨by omega, ?_⟩
    have hBA : (m' + 2 ^ (16 - k')) % 2 ^ (16 - k) = 0 := by
      rw [Nat.add_mod, hd, Nat.mul_mod_right, Nat.add_zero, Nat.mod_mod]
      have : m' % (2 ^ (16 - k) * 2 ^ (k - k')) = 0 := by rw [← hd]; exact hm'
      exact Nat.mod_eq_zero_of_dvd (Nat.dvd_trans (Nat.dvd_mul_right _ _) (Nat.dvd_of_mod_eq_zero this))
    exact mul_lt_next hA hm hBA (by omega)
end Go.Proofs.Ytfnfpekjjmejnaa
