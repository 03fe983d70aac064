/- The exact law on TableValid: the walk. -/
import Derived.Test.YtfnfpekjjmejnaaTbV
import Derived.Test.YtfnfpekjjmejnaaTbL
namespace Go.Proofs.Ytfnfpekjjmejnaa
open Go.RowKit
theorem lenBig (n : Nat) (h : ¬ n ≤ 1048576) : (if (1048576 : Int) < n then (-1 : Int) else 1048576 - n) = -1 := by rw [if_pos (by omega)]
theorem lenOk (n : Nat) (h : n ≤ 1048576) : (if (1048576 : Int) < n then (-1 : Int) else 1048576 - n) = 1048576 - n := by rw [if_neg (by omega)]
set_option maxHeartbeats 1000000 in
theorem law_FnExactTableValid (xs : List En) (v : Value) (w : World) (hs : Ens w v xs) :
    Calls Try.prog 3 #[v] w fun e w' => e = .returned (.bool true) ∧ Below w.heap.size w w' := by
  obtain ⟨a, cap, rfl, hlc, hcm, -⟩ := id hs
  have hcm' := hcm; unfold maxLen at hcm'
  by_cases hn : xs.length ≤ 1048576
  · go_enter Try.func3, Try.ntmps3
    go_wp2_with fail
    refine (szEntryS_any a xs.length cap 1048576 (by omega) (by omega) (by omega) w).mono ?_
    rw [lenOk _ hn]
    rintro e _ ⟨rfl, rfl⟩
    go_wp2_with fail
    refine (toEntryS_any xs _ _ hs hn).mono ?_
    rintro e w1 ⟨v1, rfl, ho1, hb1⟩
    go_wp2_with fail
    refine (specTV_any xs _ _ ho1.ens).mono ?_
    rintro e w2 ⟨rfl, hb2⟩
    have hs2 := hs.below (hb1.trans (hb2.mono hb1.size))
    go_wp2_with fail
    refine (toEntryS_any xs _ _ hs2 hn).mono ?_
    rintro e w3 ⟨v3, rfl, ho3, hb3⟩
    have hw3 : Below w.heap.size w w3 := (hb1.trans (hb2.mono hb1.size)).trans (hb3.mono (Nat.le_trans hb1.size hb2.size))
    go_wp2_with fail
    refine (implTV_any xs _ _ ho3.ens).mono ?_
    rintro e w4 ⟨rfl, hb4⟩
    have hw4 := hw3.trans (hb4.mono hw3.size)
    go_wp2_with fail
    refine (toEntryS_any xs _ _ (hs.below hw4) hn).mono ?_
    rintro e w5 ⟨v5, rfl, ho5, hb5⟩
    have hw5 := hw4.trans (hb5.mono hw4.size)
    go_wp2_with fail
    refine (eqEntryS_b (ho3.ens.below (hb4.trans (hb5.mono hb4.size))) ho5.ens (decide_eq_true rfl)).mono ?_
    rintro e w6 ⟨rfl, hb6⟩
    go_wp2
    go_ret
    exact ⟨rfl, hw5.trans (hb6.mono hw5.size)⟩
  · go_enter Try.func3, Try.ntmps3
    go_wp2_with fail
    refine (szEntryS_any a xs.length cap 1048576 (by omega) (by omega) (by omega) w).mono ?_
    rw [lenBig _ hn]
    rintro e _ ⟨rfl, rfl⟩
    go_wp2
    go_ret
    exact ⟨rfl, by (repeat' (first | with_reducible exact Below.refl _ _ | with_reducible assumption | with_reducible refine Below.setCell ?_ ?_ _ | with_reducible refine Below.alloc ?_ ?_ _ | with_reducible refine Below.drew ?_ | with_reducible refine belDrewN ?_ _ | with_reducible refine Below.trans ?_ (Below.mono (by assumption) ?_) | omega | (simp; omega) | (simp; done)))⟩
end Go.Proofs.Ytfnfpekjjmejnaa
