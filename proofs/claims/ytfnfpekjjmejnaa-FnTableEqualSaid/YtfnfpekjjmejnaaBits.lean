/- The bit operations of int at numbers that are not negative. -/
import Derived.Test.YtfnfpekjjmejnaaBase
namespace Go.Proofs.Ytfnfpekjjmejnaa
open Go.RowKit
theorem bv_nat (a : Nat) (h : a < 9223372036854775808) : (BitVec.ofInt 64 (a : Int)).toNat = a := by
  rw [BitVec.ofInt_natCast, BitVec.toNat_ofNat]; exact Nat.mod_eq_of_lt (by omega)
theorem bits_and_i64 (a b : Nat) (ha : a < 9223372036854775808) (hb : b < 9223372036854775808) : bits .and .i64 (a : Int) (b : Int) = ((a &&& b : Nat) : Int) := by
  have hx : a &&& b < 2 ^ 63 := Nat.and_lt_two_pow _ (by omega)
  have e : bits .and .i64 (a : Int) (b : Int) = IntKind.i64.wrap ((BitVec.ofInt 64 (a : Int) &&& BitVec.ofInt 64 (b : Int)).toNat : Int) := rfl
  rw [e, BitVec.toNat_and, bv_nat a ha, bv_nat b hb, IntKind.wrap_i64]
  omega
theorem bits_or_i64 (a b : Nat) (ha : a < 9223372036854775808) (hb : b < 9223372036854775808) : bits .or .i64 (a : Int) (b : Int) = ((a ||| b : Nat) : Int) := by
  have hx : a ||| b < 2 ^ 63 := Nat.or_lt_two_pow (by omega) (by omega)
  have e : bits .or .i64 (a : Int) (b : Int) = IntKind.i64.wrap ((BitVec.ofInt 64 (a : Int) ||| BitVec.ofInt 64 (b : Int)).toNat : Int) := rfl
  rw [e, BitVec.toNat_or, bv_nat a ha, bv_nat b hb, IntKind.wrap_i64]
  omega
theorem and_not_low (a k : Nat) (hk : k ≤ 16) (ha : a < 9223372036854775808) : a &&& (18446744073709551615 - (2 ^ k - 1)) = a - a % 2 ^ k := by
  have hp : 2 ^ k ≤ 2 ^ 16 := Nat.pow_le_pow_right (by omega) hk
  have hp1 : 1 ≤ 2 ^ k := Nat.one_le_two_pow
  have h1 : a - a % 2 ^ k = a / 2 ^ k * 2 ^ k := by
    have := Nat.div_add_mod a (2 ^ k)
    rw [Nat.mul_comm] at this
    omega
  rw [h1]
  apply Nat.eq_of_testBit_eq
  intro i
  rw [Nat.testBit_and, show 18446744073709551615 - (2 ^ k - 1) = 2 ^ 64 - (2 ^ k - 1 + 1) by omega, Nat.testBit_two_pow_sub_succ (by omega), Nat.testBit_two_pow_sub_one]
  rw [← Nat.shiftLeft_eq, Nat.testBit_shiftLeft, Nat.testBit_div_two_pow]
  by_cases hik : i < k
  · simp [hik, show ¬ k ≤ i by omega]
  · have e : k ≤ i := by omega
    by_cases h64 : i < 64
    · simp [hik, e, h64, show i - k + k = i by omega]
    · have hz : a.testBit i = false := Nat.testBit_lt_two_pow (Nat.lt_of_lt_of_le (show a < 2 ^ 63 by omega) (Nat.pow_le_pow_right (by omega) (by omega)))
      simp [hik, e, h64, show i - k + k = i by omega, hz]
theorem bits_andNot_i64 (a k : Nat) (hk : k ≤ 16) (ha : a < 9223372036854775808) : bits .andNot .i64 (a : Int) ((2 : Int) ^ k - 1) = ((a - a % 2 ^ k : Nat) : Int) := by
  have hp : 2 ^ k ≤ 2 ^ 16 := Nat.pow_le_pow_right (by omega) hk
  have hp1 : 1 ≤ 2 ^ k := Nat.one_le_two_pow
  have hc : ((2 : Int) ^ k - 1) = ((2 ^ k - 1 : Nat) : Int) := by
    have : ((2 ^ k : Nat) : Int) = (2 : Int) ^ k := by norm_cast
    omega
  rw [hc]
  have e : bits .andNot .i64 (a : Int) ((2 ^ k - 1 : Nat) : Int) = IntKind.i64.wrap ((BitVec.ofInt 64 (a : Int) &&& ~~~ BitVec.ofInt 64 ((2 ^ k - 1 : Nat) : Int)).toNat : Int) := rfl
  rw [e, BitVec.toNat_and, BitVec.toNat_not, bv_nat a ha, bv_nat _ (by omega), IntKind.wrap_i64, show 2 ^ 64 - 1 - (2 ^ k - 1) = 18446744073709551615 - (2 ^ k - 1) by omega, and_not_low a k hk ha]
  have : a - a % 2 ^ k ≤ a := Nat.sub_le _ _
  omega
theorem bits_and_low (a k : Nat) (hk : k ≤ 16) (ha : a < 9223372036854775808) : bits .and .i64 (a : Int) ((2 : Int) ^ k - 1) = ((a % 2 ^ k : Nat) : Int) := by
  have hp : 2 ^ k ≤ 2 ^ 16 := Nat.pow_le_pow_right (by omega) hk
  have hp1 : 1 ≤ 2 ^ k := Nat.one_le_two_pow
  have hc : ((2 : Int) ^ k - 1) = ((2 ^ k - 1 : Nat) : Int) := by
    have : ((2 ^ k : Nat) : Int) = (2 : Int) ^ k := by norm_cast
    omega
  rw [hc, bits_and_i64 a _ ha (by omega), Nat.and_two_pow_sub_one_eq_mod]
theorem bits_or_low (a k : Nat) (hk : k ≤ 16) (ha : a < 9223372036854775808) (h0 : a % 2 ^ k = 0) : bits .or .i64 (a : Int) ((2 : Int) ^ k - 1) = (a : Int) + (2 : Int) ^ k - 1 := by
  have hp : 2 ^ k ≤ 2 ^ 16 := Nat.pow_le_pow_right (by omega) hk
  have hp1 : 1 ≤ 2 ^ k := Nat.one_le_two_pow
  have hq : ((2 ^ k : Nat) : Int) = (2 : Int) ^ k := by norm_cast
  have hc : ((2 : Int) ^ k - 1) = ((2 ^ k - 1 : Nat) : Int) := by omega
  rw [hc, bits_or_i64 a _ ha (by omega)]
  have h1 : a = 2 ^ k * (a / 2 ^ k) := by have := Nat.div_add_mod a (2 ^ k); omega
  rw [h1, ← Nat.two_pow_add_eq_or_of_lt (show 2 ^ k - 1 < 2 ^ k by omega)]
  generalize 2 ^ k * (a / 2 ^ k) = c
  omega
theorem bits_and_one (a : Nat) (ha : a < 9223372036854775808) : bits .and .i64 (a : Int) 1 = ((a % 2 : Nat) : Int) := by
  have := bits_and_low a 1 (by omega) ha
  simpa using this
end Go.Proofs.Ytfnfpekjjmejnaa
