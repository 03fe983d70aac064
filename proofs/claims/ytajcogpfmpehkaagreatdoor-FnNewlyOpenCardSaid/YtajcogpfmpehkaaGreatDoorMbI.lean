/- Merging boxes: the program's walk. -/
import Derived.Test.YtajcogpfmpehkaaGreatDoorMbMf
import Derived.Test.YtajcogpfmpehkaaGreatDoorRgI
import Derived.Test.YtajcogpfmpehkaaGreatDoorSwU
import Derived.Test.YtajcogpfmpehkaaGreatDoorFnX
import Derived.Test.YtajcogpfmpehkaaGreatDoorLvP
import Derived.Deep.DeepCutAuto
namespace Go.Proofs.YtajcogpfmpehkaaGreatDoor
open Go.RowKit
theorem sp_eq (a1 a2 b1 b2 : Int) (w : World) : (Op.equalIn 10000 60 (.agg #[.int .i64 a1, .int .i64 a2]) (.agg #[.int .i64 b1, .int .i64 b2])).run Tryz.prog w = .ok (decide (Sp.mk a1 a2 = Sp.mk b1 b2)) w := by
  have u3 := Tryz.underlying3
  have a3 := Tryz.isAgg3
  have z3 := Tryz.sizeOf3
  rw [show (10000 : Nat) = 9999 + 1 from rfl, run_equalIn_agg w 9999 _ _ _ spStruct spHeld]
  simp only [Program.fieldsOf, Tryz.underlying60]
  by_cases h1 : a1 = b1
  · subst h1
    by_cases h2 : a2 = b2
    · subst h2; go_simp
    · go_simp
  · go_simp
set_option maxHeartbeats 2000000 in
theorem l15Same_any {lo lo' : Nat} (xs ys : List Sp) (v u : Value) (w : World) (hs : Sps lo w v xs) (hu : Sps lo' w u ys) :
    Calls Tryz.prog 123 #[v, u] w fun e w' => e = .returned (.bool (decide (xs = ys))) ∧ Below w.heap.size w w' := by
  obtain ⟨a, cap, rfl, hlc, hcm⟩ := hs.form
  obtain ⟨a', cap', rfl, hlc', hcm'⟩ := hu.form
  unfold maxLen at hcm hcm'
  have hp := spGuard
  by_cases hne : xs.length = ys.length
  · have hm : ys.length = xs.length := hne.symm
    rw [hm] at hu hlc' ⊢
    generalize hn : xs.length = n at *
    have HN := Lib.hid hn
    have HM := Lib.hid hm
    clear hn hm hne
    go_enter Tryz.func123, Tryz.ntmps123
    go_wp2_with fail
    go_loopw [5] (fun i wr => ∃ k : Nat, k ≤ n ∧ i = .int .i64 k ∧ Hid (xs.take k = ys.take k) ∧ Below w.heap.size w wr) (fun i _ => n - (intOf i).toNat)
    case atStart => exact ⟨0, by omega, rfl, Lib.hid rfl, Below.refl _ _⟩
    case round =>
      obtain ⟨k, hk, rfl, HQ, hbr⟩ := hrel
      have hs2 := hs.below hbr
      have hu2 := hu.below hbr
      have hzr := hbr.size
      by_cases hlt : k < n
      · obtain ⟨b, o, f1, f2, rfl, hbl, hx, c0, c1⟩ := hs2.at (show k < xs.length by rw [HN.out]; exact hlt)
        obtain ⟨b', o', g1, g2, rfl, hbl', hy, d0, d1⟩ := hu2.at (show k < ys.length by rw [HM.out]; exact hlt)
        have i1 : (k : Int) < (n : Int) := by omega
        have i2 : (0 : Int) ≤ (k : Int) := by omega
        obtain ⟨r, hr⟩ : ∃ r, decide (Sp.mk f1 f2 = Sp.mk g1 g2) = r := ⟨_, rfl⟩
        have hq : ∀ w : World, (Op.equalIn 10000 60 (.agg #[.int .i64 f1, .int .i64 f2]) (.agg #[.int .i64 g1, .int .i64 g2])).run Tryz.prog w = .ok r w := fun w => by rw [sp_eq, hr]
        have HX := Lib.hid hx
        have HY := Lib.hid hy
        have HR := Lib.hid hr
        clear hx hy hr
        cases r
        · have HE := Lib.hid (show decide (xs = ys) = false from decide_eq_false (fun h => of_decide_eq_false HR.out (by have h1 := HX.out; have h2 := HY.out; rw [h, h2] at h1; exact (Option.some.inj h1).symm)))
          go_wp2_with fail
          go_quiet (fail)
          go_wp2
          go_ret
          exact ⟨ret_bool HE.out.symm, by (repeat' (first | with_reducible exact Below.refl _ _ | with_reducible assumption | with_reducible refine Below.setCell ?_ ?_ _ | with_reducible refine Below.alloc ?_ ?_ _ | with_reducible refine Below.drew ?_ | with_reducible refine belDrewN ?_ _ | with_reducible refine Below.trans ?_ (Below.mono (by assumption) ?_) | omega | (simp; omega) | (simp; done)))⟩
        · have HE := Lib.hid (take_eq_succ HQ.out HX.out HY.out (of_decide_eq_true HR.out))
          go_wp2_with fail
          go_quiet (fail)
          go_wp2
          go_roundw
          case rel => exact ⟨k + 1, by omega, by go_num, HE, by (repeat' (first | with_reducible exact Below.refl _ _ | with_reducible assumption | with_reducible refine Below.setCell ?_ ?_ _ | with_reducible refine Below.alloc ?_ ?_ _ | with_reducible refine Below.drew ?_ | with_reducible refine belDrewN ?_ _ | with_reducible refine Below.trans ?_ (Below.mono (by assumption) ?_) | omega | (simp; omega) | (simp; done)))⟩
          case measure => simp [intOf]; omega
      · have HE := Lib.hid (show decide (xs = ys) = true from decide_eq_true (by
          have hkn : k = n := by omega
          have := HQ.out
          rw [hkn] at this
          rwa [List.take_of_length_le (by rw [HN.out]; exact Nat.le_refl _), List.take_of_length_le (by rw [HM.out]; exact Nat.le_refl _)] at this))
        go_wp2
        go_ret
        exact ⟨ret_bool HE.out.symm, hbr⟩
  · have HN := Lib.hid (decide_eq_false (fun h : xs = ys => hne (by rw [h])))
    have hb : ((xs.length : Int) == (ys.length : Int)) = false := by simpa using (by omega : (xs.length : Int) ≠ ys.length)
    have hb2 : ((xs.length : Int) != (ys.length : Int)) = true := by simpa using (by omega : (xs.length : Int) ≠ ys.length)
    generalize xs.length = n at *
    generalize ys.length = m at *
    clear hne hs hu
    go_enter Tryz.func123, Tryz.ntmps123
    go_wp2
    go_ret
    exact ⟨ret_bool HN.out.symm, by (repeat' (first | with_reducible exact Below.refl _ _ | with_reducible assumption | with_reducible refine Below.setCell ?_ ?_ _ | with_reducible refine Below.alloc ?_ ?_ _ | with_reducible refine Below.drew ?_ | with_reducible refine belDrewN ?_ _ | with_reducible refine Below.trans ?_ (Below.mono (by assumption) ?_) | omega | (simp; omega) | (simp; done)))⟩
theorem l15Same_b {lo lo' : Nat} {xs ys : List Sp} {v u : Value} {w : World} {r : Bool} (hs : Sps lo w v xs) (hu : Sps lo' w u ys) (h : decide (xs = ys) = r) :
    Calls Tryz.prog 123 #[v, u] w fun e w' => e = .returned (.bool r) ∧ Below w.heap.size w w' := by
  subst h
  exact l15Same_any xs ys v u w hs hu
theorem mergeB_yes {a b : Bx} {n : Nat} (h1 : bwithin a b = false) (h2 : bwithin b a = false) (hd : bdiff a b 4 = [n]) : mergeB a b = if (mergeU a b n).length ≤ 40 then some (a.set n (mergeU a b n)) else none := by
  unfold mergeB
  rw [h1, h2, hd]
  rfl
theorem mergeB_no {a b : Bx} (h1 : bwithin a b = false) (h2 : bwithin b a = false) (hd : (bdiff a b 4).length ≠ 1) : mergeB a b = none := by
  unfold mergeB
  rw [h1, h2]
  simp only [Bool.false_eq_true, if_false]
  split
  · rename_i n h; rw [h] at hd; simp at hd
  · rfl
theorem mergeU_get {a b : Bx} {n : Nat} {x y : List Sp} (hx : a[n]? = some x) (hy : b[n]? = some y) : suni x y = mergeU a b n := by unfold mergeU; rw [getD_get hx, getD_get hy]
theorem bdiff_step {a b : Bx} {n : Nat} {x y : List Sp} {r : Bool} (hx : a[n]? = some x) (hy : b[n]? = some y) (h : decide (x = y) = r) : bdiff a b (n + 1) = bdiff a b n ++ (if r then [] else [n]) := by
  rw [bdiff_succ, getD_get hx, getD_get hy]
  by_cases e : x = y
  · rw [if_pos e]; subst e; simp at h; subst h; rfl
  · rw [if_neg e]; rw [decide_eq_false e] at h; subst h; rfl
end Go.Proofs.YtajcogpfmpehkaaGreatDoor
