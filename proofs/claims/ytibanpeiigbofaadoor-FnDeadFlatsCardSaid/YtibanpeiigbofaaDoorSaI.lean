/- Equal lists of numbers in the laws. -/
import Derived.Test.YtibanpeiigbofaaDoorDrS
namespace Go.Proofs.YtibanpeiigbofaaDoor
open Go.RowKit
set_option maxHeartbeats 2000000 in
theorem sameInts_e {xs : List Int} {v u : Value} {w : World} (hs : Ins w v xs) (hu : Ins w u xs) :
    Calls Tryd.prog 55 #[v, u] w fun e w' => e = .returned (.bool true) ∧ Below w.heap.size w w' := by
  obtain ⟨a, cap, rfl, hlc, hcm⟩ := hs.formI
  obtain ⟨a', cap', rfl, hlc', hcm'⟩ := hu.formI
  unfold maxLen at hcm hcm'
  generalize hn : xs.length = n at *
  have HN := Lib.hid hn
  clear hn
  go_enter Tryd.func55, Tryd.ntmps55
  go_wp2_with fail
  go_loopw [5] (fun i wr => ∃ k : Nat, k ≤ n ∧ i = .int .i64 k ∧ Below w.heap.size w wr) (fun i _ => n - (intOf i).toNat)
  case atStart => exact ⟨0, by omega, rfl, Below.refl _ _⟩
  case round =>
    obtain ⟨k, hk, rfl, hbr⟩ := hrel
    have hs2 := hs.below hbr
    have hu2 := hu.below hbr
    have hzr := hbr.size
    by_cases hlt : k < n
    · obtain ⟨x, hx⟩ : ∃ x, xs[k]? = some x := ⟨_, List.getElem?_eq_getElem (by rw [HN.out]; exact hlt)⟩
      obtain ⟨b, o, rfl, hbl, c0⟩ := hs2.atI hx
      obtain ⟨b', o', rfl, hbl', d0⟩ := hu2.atI hx
      have i1 : (k : Int) < (n : Int) := by omega
      have i2 : (0 : Int) ≤ (k : Int) := by omega
      clear hx
      go_wp2_with fail
      (try go_quiet (fail))
      go_wp2
      go_roundw
      case rel => exact ⟨k + 1, by omega, by go_num, by (repeat' (first | with_reducible exact Below.refl _ _ | with_reducible assumption | with_reducible refine Below.setCell ?_ ?_ _ | with_reducible refine Below.alloc ?_ ?_ _ | with_reducible refine Below.drew ?_ | with_reducible refine belDrewN ?_ _ | with_reducible refine Below.trans ?_ (Below.mono (by assumption) ?_) | omega | (simp; omega) | (simp; done)))⟩
      case measure => simp [intOf]; omega
    · go_wp2
      go_ret
      exact ⟨rfl, hbr⟩
end Go.Proofs.YtibanpeiigbofaaDoor
