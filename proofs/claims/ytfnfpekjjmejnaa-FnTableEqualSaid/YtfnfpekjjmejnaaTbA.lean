/- Prefixes: the small functions. -/
import Derived.Test.YtfnfpekjjmejnaaProg
import Derived.Test.YtfnfpekjjmejnaaTp
import Derived.Test.YtfnfpekjjmejnaaBits
import Derived.Test.YtfnfpekjjmejnaaSetAll
namespace Go.Proofs.Ytfnfpekjjmejnaa
open Go.RowKit
abbrev Pf.vv (p : Pf) : Value := .agg #[.int .i64 p.b, .int .i64 p.l]
set_option maxHeartbeats 400000 in
theorem l1In_any (n lo hi : Int) (w : World) :
    Calls Try.prog 42 #[.int .i64 n, .int .i64 lo, .int .i64 hi] w fun e w' => e = .returned (.bool (inB n lo hi)) ∧ w = w' := by
  go_enter Try.func42, Try.ntmps42
  go_wp2
  · go_ret
    exact ⟨ret_bool (by simp [inB, *]), rfl⟩
  · go_ret
    exact ⟨ret_bool (by simp [inB]; omega), rfl⟩
theorem l1In_b {n lo hi : Int} {r : Bool} (h : inB n lo hi = r) (w : World) : Calls Try.prog 42 #[.int .i64 n, .int .i64 lo, .int .i64 hi] w fun e w' => e = .returned (.bool r) ∧ w = w' := by
  subst h
  exact l1In_any n lo hi w
theorem two_le (k : Nat) (hk : k ≤ 16) : (1 : Int) ≤ 2 ^ k ∧ (2 : Int) ^ k ≤ 65536 := by
  have h1 : (2 : Int) ^ k ≤ 2 ^ 16 := by
    have := Nat.pow_le_pow_right (n := 2) (by omega) hk
    exact_mod_cast this
  have : (0 : Int) < 2 ^ k := Int.pow_pos (by omega)
  exact ⟨by omega, by omega⟩
set_option maxHeartbeats 400000 in
theorem hostMask_any (l : Nat) (hl : l ≤ 16) (w : World) :
    Calls Try.prog 59 #[.int .i64 l] w fun e w' => e = .returned (.int .i64 ((2 : Int) ^ (16 - l) - 1)) ∧ w = w' := by
  obtain ⟨h1, h2⟩ := two_le (16 - l) (by omega)
  go_enter Try.func59, Try.ntmps59
  go_wp2
  go_ret
  exact ⟨rfl, rfl⟩
set_option maxHeartbeats 400000 in
theorem digitAt_any (x l : Nat) (hl : l ≤ 15) (hx : x ≤ 65535) (w : World) :
    Calls Try.prog 67 #[.int .i64 x, .int .i64 l] w fun e w' => e = .returned (.int .i64 ((x / 2 ^ (15 - l) % 2 : Nat) : Int)) ∧ w = w' := by
  go_enter Try.func67, Try.ntmps67
  go_wp2
  go_ret
  refine ⟨ret_int ?_, rfl⟩
  have hq : ((2 ^ (15 - l) : Nat) : Int) = (2 : Int) ^ (15 - l) := by norm_cast
  rw [← hq, ← Int.natCast_ediv, bits_and_one _ (by have := Nat.div_le_self x (2 ^ (15 - l)); omega)]
/-- A valid prefix as numbers. -/
theorem pf_nat {b l : Int} (h : Pf.ok ⟨b, l⟩ = true) : ∃ m k : Nat, b = m ∧ l = k ∧ k ≤ 16 ∧ m ≤ 65535 ∧ m % 2 ^ (16 - k) = 0 := by
  obtain ⟨⟨h1, h2⟩, ⟨h3, h4⟩, h5⟩ := (pf_ok_iff _).1 h
  simp only at h1 h2 h3 h4 h5
  obtain ⟨k, rfl⟩ := Int.eq_ofNat_of_zero_le h1
  obtain ⟨m, rfl⟩ := Int.eq_ofNat_of_zero_le h3
  refine ⟨m, k, rfl, rfl, by omega, by omega, ?_⟩
  rw [pwr_nat (by omega)] at h5
  have hq : ((2 ^ (16 - k) : Nat) : Int) = (2 : Int) ^ (16 - k) := by norm_cast
  rw [← hq] at h5
  omega
set_option maxHeartbeats 1000000 in
theorem specPf_any (b l : Int) (w : World) :
    Calls Try.prog 41 #[.agg #[.int .i64 b, .int .i64 l]] w fun e w' => e = .returned (.bool (Pf.ok ⟨b, l⟩)) ∧ Below w.heap.size w w' := by
  cases h1 : inB l 0 16
  · go_enter Try.func41, Try.ntmps41
    go_wp2_with fail
    refine wp_region_over (by kernel_rfl) (by kernel_rfl) (fun ov => ?_); have ov0 := fun x => ov x (w.heap.size) (by (try simp) <;> omega); clear ov; (repeat (go_big_quiet_step (first | (go_at_call 42; exact callsOverSame (l1In_b h1 _))))); refine wpQuiet_nil ?_; intro w9 hw9; have hb_w9 := below_over hw9; clear hw9 ov0
    go_wp2
    go_ret
    exact ⟨ret_bool (by simp [Pf.ok, h1]), by (repeat' (first | with_reducible exact Below.refl _ _ | with_reducible assumption | with_reducible refine Below.setCell ?_ ?_ _ | with_reducible refine Below.alloc ?_ ?_ _ | with_reducible refine Below.drew ?_ | with_reducible refine belDrewN ?_ _ | with_reducible refine Below.trans ?_ (Below.mono (by assumption) ?_) | omega | (simp; omega) | (simp; done)))⟩
  · cases h2 : inB b 0 65535
    · go_enter Try.func41, Try.ntmps41
      go_wp2_with fail
      refine wp_region_over (by kernel_rfl) (by kernel_rfl) (fun ov => ?_); have ov0 := fun x => ov x (w.heap.size) (by (try simp) <;> omega); clear ov; (repeat (go_big_quiet_step (first | (go_at_call 42; exact callsOverSame (l1In_b (by assumption) _))))); refine wpQuiet_nil ?_; intro w9 hw9; have hb_w9 := below_over hw9; clear hw9 ov0
      go_wp2
      go_ret
      exact ⟨ret_bool (by simp [Pf.ok, h1, h2]), by (repeat' (first | with_reducible exact Below.refl _ _ | with_reducible assumption | with_reducible refine Below.setCell ?_ ?_ _ | with_reducible refine Below.alloc ?_ ?_ _ | with_reducible refine Below.drew ?_ | with_reducible refine belDrewN ?_ _ | with_reducible refine Below.trans ?_ (Below.mono (by assumption) ?_) | omega | (simp; omega) | (simp; done)))⟩
    · obtain ⟨g1, g2⟩ := inB_iff.1 h1
      obtain ⟨g3, g4⟩ := inB_iff.1 h2
      obtain ⟨k, rfl⟩ := Int.eq_ofNat_of_zero_le g1
      obtain ⟨m, rfl⟩ := Int.eq_ofNat_of_zero_le g3
      obtain ⟨p1, p2⟩ := two_le (16 - k) (by omega)
      go_enter Try.func41, Try.ntmps41
      go_wp2_with fail
      refine wp_region_over (by kernel_rfl) (by kernel_rfl) (fun ov => ?_); have ov0 := fun x => ov x (w.heap.size) (by (try simp) <;> omega); clear ov; (repeat (go_big_quiet_step (first | (go_at_call 42; exact callsOverSame (l1In_b (by assumption) _))))); refine wpQuiet_nil ?_; intro w9 hw9; have hb_w9 := below_over hw9; clear hw9 ov0
      go_wp2
      go_ret
      refine ⟨ret_bool ?_, by (repeat' (first | with_reducible exact Below.refl _ _ | with_reducible assumption | with_reducible refine Below.setCell ?_ ?_ _ | with_reducible refine Below.alloc ?_ ?_ _ | with_reducible refine Below.drew ?_ | with_reducible refine belDrewN ?_ _ | with_reducible refine Below.trans ?_ (Below.mono (by assumption) ?_) | omega | (simp; omega) | (simp; done)))⟩
      simp only [Pf.ok, h1, h2, pwr_nat (show k ≤ 16 by omega), Bool.true_and]
      try rfl
theorem specPf_b {b l : Int} {r : Bool} (h : Pf.ok ⟨b, l⟩ = r) (w : World) : Calls Try.prog 41 #[.agg #[.int .i64 b, .int .i64 l]] w fun e w' => e = .returned (.bool r) ∧ Below w.heap.size w w' := by
  subst h
  exact specPf_any b l w
set_option maxHeartbeats 1000000 in
theorem implPf_any (b l : Int) (w : World) :
    Calls Try.prog 58 #[.agg #[.int .i64 b, .int .i64 l]] w fun e w' => e = .returned (.bool (Pf.ok ⟨b, l⟩)) ∧ Below w.heap.size w w' := by
  cases h1 : inB l 0 16
  · go_enter Try.func58, Try.ntmps58
    have h1' : l < 0 ∨ 16 < l := by
      by_cases hl : l < 0
      · exact .inl hl
      · by_cases hl' : 16 < l
        · exact .inr hl'
        · rw [inB_true (by omega) (by omega)] at h1; cases h1
    rcases h1' with h | h
    all_goals
      go_wp2_with fail
      go_ret
      exact ⟨ret_bool (by simp [Pf.ok, h1]), by (repeat' (first | with_reducible exact Below.refl _ _ | with_reducible assumption | with_reducible refine Below.setCell ?_ ?_ _ | with_reducible refine Below.alloc ?_ ?_ _ | with_reducible refine Below.drew ?_ | with_reducible refine belDrewN ?_ _ | with_reducible refine Below.trans ?_ (Below.mono (by assumption) ?_) | omega | (simp; omega) | (simp; done)))⟩
  · cases h2 : inB b 0 65535
    · obtain ⟨g1, g2⟩ := inB_iff.1 h1
      have h2' : b < 0 ∨ 65535 < b := by
        by_cases hl : b < 0
        · exact .inl hl
        · by_cases hl' : 65535 < b
          · exact .inr hl'
          · rw [inB_true (by omega) (by omega)] at h2; cases h2
      rcases h2' with h | h
      all_goals
        go_enter Try.func58, Try.ntmps58
        go_wp2_with fail
        go_ret
        exact ⟨ret_bool (by simp [Pf.ok, h1, h2]), by (repeat' (first | with_reducible exact Below.refl _ _ | with_reducible assumption | with_reducible refine Below.setCell ?_ ?_ _ | with_reducible refine Below.alloc ?_ ?_ _ | with_reducible refine Below.drew ?_ | with_reducible refine belDrewN ?_ _ | with_reducible refine Below.trans ?_ (Below.mono (by assumption) ?_) | omega | (simp; omega) | (simp; done)))⟩
    · obtain ⟨g1, g2⟩ := inB_iff.1 h1
      obtain ⟨g3, g4⟩ := inB_iff.1 h2
      obtain ⟨k, rfl⟩ := Int.eq_ofNat_of_zero_le g1
      obtain ⟨m, rfl⟩ := Int.eq_ofNat_of_zero_le g3
      go_enter Try.func58, Try.ntmps58
      go_wp2_with fail
      refine wp_region_over (by kernel_rfl) (by kernel_rfl) (fun ov => ?_); have ov0 := fun x => ov x (w.heap.size) (by (try simp) <;> omega); clear ov; (repeat (go_big_quiet_step (first | (go_at_call 59; exact callsOverSame (hostMask_any k (by omega) _))))); refine wpQuiet_nil ?_; intro w9 hw9; have hb_w9 := below_over hw9; clear hw9 ov0
      go_wp2
      go_ret
      refine ⟨ret_bool ?_, by (repeat' (first | with_reducible exact Below.refl _ _ | with_reducible assumption | with_reducible refine Below.setCell ?_ ?_ _ | with_reducible refine Below.alloc ?_ ?_ _ | with_reducible refine Below.drew ?_ | with_reducible refine belDrewN ?_ _ | with_reducible refine Below.trans ?_ (Below.mono (by assumption) ?_) | omega | (simp; omega) | (simp; done)))⟩
      have hq : ((2 ^ (16 - k) : Nat) : Int) = (2 : Int) ^ (16 - k) := by norm_cast
      simp only [Pf.ok, h1, h2, pwr_nat (show k ≤ 16 by omega), Bool.true_and]
      rw [bits_and_low m (16 - k) (by omega) (by omega), ← hq, Int.natCast_emod]
      try rfl
theorem implPf_b {b l : Int} {r : Bool} (h : Pf.ok ⟨b, l⟩ = r) (w : World) : Calls Try.prog 58 #[.agg #[.int .i64 b, .int .i64 l]] w fun e w' => e = .returned (.bool r) ∧ Below w.heap.size w w' := by
  subst h
  exact implPf_any b l w
set_option maxHeartbeats 400000 in
theorem before_any (a1 a2 b1 b2 : Int) (w : World) :
    Calls Try.prog 43 #[.agg #[.int .i64 a1, .int .i64 a2], .agg #[.int .i64 b1, .int .i64 b2]] w fun e w' => e = .returned (.bool (Pf.lt ⟨a1, a2⟩ ⟨b1, b2⟩)) ∧ Below w.heap.size w w' := by
  go_enter Try.func43, Try.ntmps43
  go_wp2
  all_goals
    go_ret
    refine ⟨ret_bool ?_, by (repeat' (first | with_reducible exact Below.refl _ _ | with_reducible assumption | with_reducible refine Below.setCell ?_ ?_ _ | with_reducible refine Below.alloc ?_ ?_ _ | with_reducible refine Below.drew ?_ | with_reducible refine belDrewN ?_ _ | with_reducible refine Below.trans ?_ (Below.mono (by assumption) ?_) | omega | (simp; omega) | (simp; done)))⟩
    simp only [Pf.lt]
    first | (simp [*]; done) | (simp [*]; omega) | (by_cases e1 : a1 = b1 <;> by_cases e2 : a1 < b1 <;> by_cases e3 : a2 < b2 <;> simp_all <;> omega)
theorem before_b {a1 a2 b1 b2 : Int} {r : Bool} (h : Pf.lt ⟨a1, a2⟩ ⟨b1, b2⟩ = r) (w : World) :
    Calls Try.prog 43 #[.agg #[.int .i64 a1, .int .i64 a2], .agg #[.int .i64 b1, .int .i64 b2]] w fun e w' => e = .returned (.bool r) ∧ Below w.heap.size w w' := by
  subst h
  exact before_any _ _ _ _ w
set_option maxHeartbeats 400000 in
theorem isNaN_any (x : Int) (w : World) : Calls Try.prog 72 #[.int .i64 x] w fun e w' => e = .returned (.bool false) ∧ w = w' := by
  go_enter Try.func72, Try.ntmps72
  go_wp2
  go_ret
  exact ⟨rfl, rfl⟩
set_option maxHeartbeats 400000 in
theorem compare_any (x y : Int) (w : World) : Calls Try.prog 63 #[.int .i64 x, .int .i64 y] w fun e w' => e = .returned (.int .i64 (cmpI x y)) ∧ w = w' := by
  go_enter Try.func63, Try.ntmps63
  go_wp2_with (go_at_call 72; refine (isNaN_any _ _).mono ?_; rintro e w' ⟨rfl, rfl⟩)
  all_goals
    go_ret
    refine ⟨ret_int ?_, rfl⟩
    unfold cmpI
    first | (simp [*]; done) | (split <;> (try split) <;> omega)
set_option maxHeartbeats 1000000 in
theorem cmpOr_any (b : Nat) (x y : Int) (w : World) (h0 : w.cell? ⟨b, 0, none⟩ = some (.int .i64 x)) (h1 : w.cell? ⟨b, 1, none⟩ = some (.int .i64 y)) :
    Calls Try.prog 62 #[.slice (some ⟨b, 0, none⟩) 2 2] w fun e w' => e = .returned (.int .i64 (if x = 0 then y else x)) ∧ w = w' := by
  go_enter Try.func62, Try.ntmps62
  go_wp2_with fail
  go_loop [8] (fun i => ∃ k : Nat, k ≤ 2 ∧ i = .int .i64 k ∧ (1 ≤ k → x = 0) ∧ (2 ≤ k → y = 0)) (fun i => 2 - (intOf i).toNat)
  case atStart => exact ⟨0, by omega, rfl, by omega, by omega⟩
  case round =>
    obtain ⟨k, hk, rfl, hx, hy⟩ := hrel
    rcases (by omega : k = 0 ∨ k = 1 ∨ k = 2) with rfl | rfl | rfl
    · have hxd : (x == 0) = decide (x = 0) := rfl
      by_cases h : x = 0
      · subst h
        go_wp2
        go_round
        case rel => exact ⟨1, by omega, by go_num, by simp, by simp⟩
        case measure => simp [intOf]
      · go_wp2
        go_ret
        exact ⟨ret_int (by simp), rfl⟩
    · obtain rfl := hx (by omega)
      by_cases h : y = 0
      · subst h
        go_wp2
        go_round
        case rel => exact ⟨2, by omega, by go_num, by simp, by simp⟩
        case measure => simp [intOf]
      · go_wp2
        go_ret
        exact ⟨ret_int (by simp), rfl⟩
    · obtain rfl := hx (by omega)
      obtain rfl := hy (by omega)
      go_wp2
      go_ret
      exact ⟨ret_int (by simp), rfl⟩
theorem cmpOr_b {b : Nat} {x y r : Int} (w : World) (h : r = if x = 0 then y else x) (h0 : w.cell? ⟨b, 0, none⟩ = some (.int .i64 x)) (h1 : w.cell? ⟨b, 1, none⟩ = some (.int .i64 y)) :
    Calls Try.prog 62 #[.slice (some ⟨b, 0, none⟩) 2 2] w fun e w' => e = .returned (.int .i64 r) ∧ w = w' := by
  subst h
  exact cmpOr_any b x y w h0 h1
set_option maxHeartbeats 1000000 in
theorem cmpP_any (a1 a2 b1 b2 : Int) (w : World) :
    Calls Try.prog 45 #[.agg #[.int .i64 a1, .int .i64 a2], .agg #[.int .i64 b1, .int .i64 b2]] w fun e w' => e = .returned (.int .i64 (cmpP ⟨a1, a2⟩ ⟨b1, b2⟩)) ∧ Below w.heap.size w w' := by
  have HP := Lib.hid (show cmpP ⟨a1, a2⟩ ⟨b1, b2⟩ = if cmpI a1 b1 = 0 then cmpI a2 b2 else cmpI a1 b1 from rfl)
  generalize cmpP ⟨a1, a2⟩ ⟨b1, b2⟩ = cc at *
  go_enter Try.func45, Try.ntmps45
  go_wp2_with fail
  go_region_held3 (fun W1 => Below w.heap.size w W1 ∧ w.heap.size < W1.heap.size ∧ w.heap.size + 1 < W1.heap.size ∧ W1.cell? ⟨w.heap.size, 0, none⟩ = some (.int .i64 a1) ∧ W1.cell? ⟨w.heap.size, 1, none⟩ = some (.int .i64 a2) ∧ W1.cell? ⟨w.heap.size + 1, 0, none⟩ = some (.int .i64 b1) ∧ W1.cell? ⟨w.heap.size + 1, 1, none⟩ = some (.int .i64 b2)) ((repeat' apply And.intro) <;> first | (go_keep; done) | omega | (simp; done) | (simp; omega) | ((repeat' (first | with_reducible exact Below.refl _ _ | with_reducible assumption | with_reducible refine Below.setCell ?_ ?_ _ | with_reducible refine Below.alloc ?_ ?_ _ | with_reducible refine Below.drew ?_ | with_reducible refine belDrewN ?_ _ | with_reducible refine Below.trans ?_ (Below.mono (by assumption) ?_) | omega | (simp; omega) | (simp; done))); done)) (first | (go_at_call 63; refine (compare_any _ _ _).mono ?_; rintro e _ ⟨rfl, rfl⟩) | (go_at_call 62; refine (cmpOr_b _ HP.out (by first | (go_simp; done) | (simp [World.cell?, World.alloc, Array.getElem?_push]; done)) (by first | (go_simp; done) | (simp [World.cell?, World.alloc, Array.getElem?_push]; done))).mono ?_; rintro e _ ⟨rfl, rfl⟩))
  go_wp2
  go_ret
  exact ⟨rfl, by (repeat' (first | with_reducible exact Below.refl _ _ | with_reducible assumption | with_reducible refine Below.setCell ?_ ?_ _ | with_reducible refine Below.alloc ?_ ?_ _ | with_reducible refine Below.drew ?_ | with_reducible refine belDrewN ?_ _ | with_reducible refine Below.trans ?_ (Below.mono (by assumption) ?_) | omega | (simp; omega) | (simp; done)))⟩
end Go.Proofs.Ytfnfpekjjmejnaa
