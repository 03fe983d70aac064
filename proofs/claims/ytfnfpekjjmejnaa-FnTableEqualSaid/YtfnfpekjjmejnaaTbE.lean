/- Tables compared. -/
import Derived.Test.YtfnfpekjjmejnaaTbSi
namespace Go.Proofs.Ytfnfpekjjmejnaa
open Go.RowKit
theorem enStruct : Try.prog.underlying 35 = some (.struct (Try.prog.fieldsOf 35)) := by kernel_rfl
theorem enHeld : Try.prog.stoodInHeld 35 = false := by kernel_rfl
theorem enGuard : Try.prog.eqGuardType Try.prog.depth 35 = false := by kernel_rfl
theorem en_equal (f1 f2 t : Int) (w : World) : (Op.equalIn 10000 35 (.agg #[.int .i64 f1, .int .i64 f2, .int .i64 t]) (.agg #[.int .i64 f1, .int .i64 f2, .int .i64 t])).run Try.prog w = .ok true w := by
  have u3 := Try.underlying3
  have a3 := Try.isAgg3
  have z3 := Try.sizeOf3
  have a4 := Try.isAgg33
  have z4 := Try.sizeOf33
  rw [show (10000 : Nat) = 9999 + 1 from rfl, run_equalIn_agg w 9999 _ _ _ enStruct enHeld]
  simp only [Program.fieldsOf, Try.underlying35]
  have hq : ∀ w, (Op.equalIn 9999 33 (.agg #[.int .i64 f1, .int .i64 f2]) (.agg #[.int .i64 f1, .int .i64 f2])).run Try.prog w = .ok true w := by
    intro w
    rw [show (9999 : Nat) = 9998 + 1 from rfl, run_equalIn_agg w 9998 _ _ _ pfStruct pfHeld]
    simp only [Program.fieldsOf, Try.underlying33]
    go_simp
  go_simp
set_option maxHeartbeats 1000000 in
theorem sameTable_eq (xs : List En) (v u : Value) (w : World) (hs : Ens w v xs) (hu : Ens w u xs) :
    Calls Try.prog 32 #[v, u] w fun e w' => e = .returned (.bool true) ∧ Below w.heap.size w w' := by
  obtain ⟨a, cap, rfl, hlc, hcm, -⟩ := id hs
  obtain ⟨a', cap', rfl, hlc', -, -⟩ := id hu
  unfold maxLen at hcm
  generalize hn : xs.length = n at *
  have HN := Lib.hid hn
  clear hn
  have hp := enGuard
  go_enter Try.func32, Try.ntmps32
  go_wp2_with fail
  go_loopw [5] (fun i wr => ∃ k : Nat, k ≤ n ∧ i = .int .i64 k ∧ Below w.heap.size w wr) (fun i _ => n - (intOf i).toNat)
  case atStart => exact ⟨0, by omega, rfl, by (repeat' (first | with_reducible exact Below.refl _ _ | with_reducible assumption | with_reducible refine Below.setCell ?_ ?_ _ | with_reducible refine Below.alloc ?_ ?_ _ | with_reducible refine Below.drew ?_ | with_reducible refine belDrewN ?_ _ | with_reducible refine Below.trans ?_ (Below.mono (by assumption) ?_) | omega | (simp; omega) | (simp; done)))⟩
  case round =>
    obtain ⟨k, hk, rfl, hbr⟩ := hrel
    have hzr := hbr.size
    have hs2 := Lib.hid (hs.below hbr)
    have hu2 := Lib.hid (hu.below hbr)
    by_cases hlt : k < n
    · obtain ⟨b, o, f1, f2, t, rfl, hbl, hx, c0, c1, c2⟩ := hs2.out.at (show k < xs.length by rw [HN.out]; exact hlt)
      obtain ⟨b', o', g1, g2, t', rfl, hbl', hx', d0, d1, d2⟩ := hu2.out.at (show k < xs.length by rw [HN.out]; exact hlt)
      rw [hx] at hx'
      cases hx'
      clear hx
      have hq := en_equal f1 f2 t
      have i1 : (k : Int) < (n : Int) := by omega
      have i2 : (0 : Int) ≤ (k : Int) := by omega
      go_wp2_with fail
      refine wp_region_over (by kernel_rfl) (by kernel_rfl) (fun ov => ?_); have ov0 := fun x => ov x (b) (by (try simp) <;> omega); have ov1 := fun x => ov x (b') (by (try simp) <;> omega); clear ov; (repeat (go_big_quiet_step (first | fail))); refine wpQuiet_nil ?_; intro w9 hw9; have hb_w9 := below_over hw9; clear hw9 ov0 ov1
      go_wp2
      go_roundw
      case rel => exact ⟨k + 1, by omega, by go_num, by (repeat' (first | with_reducible exact Below.refl _ _ | with_reducible assumption | with_reducible refine Below.setCell ?_ ?_ _ | with_reducible refine Below.alloc ?_ ?_ _ | with_reducible refine Below.drew ?_ | with_reducible refine belDrewN ?_ _ | with_reducible refine Below.trans ?_ (Below.mono (by assumption) ?_) | omega | (simp; omega) | (simp; done)))⟩
      case measure => simp [intOf]; omega
    · go_wp2
      go_ret
      exact ⟨rfl, by (repeat' (first | with_reducible exact Below.refl _ _ | with_reducible assumption | with_reducible refine Below.setCell ?_ ?_ _ | with_reducible refine Below.alloc ?_ ?_ _ | with_reducible refine Below.drew ?_ | with_reducible refine belDrewN ?_ _ | with_reducible refine Below.trans ?_ (Below.mono (by assumption) ?_) | omega | (simp; omega) | (simp; done)))⟩
end Go.Proofs.Ytfnfpekjjmejnaa
