/- The exact law on CanSwap: the walk. -/
import Derived.Test.YtkcnbkkgpampaaaDoorFsS
import Derived.Test.YtkcnbkkgpampaaaDoorFsW
import Derived.Test.YtkcnbkkgpampaaaDoorFmE
namespace Go.Proofs.YtkcnbkkgpampaaaDoor
open Go.RowKit
theorem specCS_b {lo : Nat} {fs : List Ft} {v : Value} {n : Int} {w : World} {r : Bool} (hs : Fts lo w v fs) (h : cansw fs n = r) :
    Calls Tryd.prog 16 #[v, .int .i64 n] w fun e w' => e = .returned (.bool r) ∧ Below w.heap.size w w' := by
  subst h
  exact specCS_any fs v n w hs
set_option maxHeartbeats 2000000 in
theorem law_FnExactCanSwap (fs : List Ft) (v : Value) (n : Int) (w : World) (hs : Fts 0 w v fs) (ht : Tab w) :
    Calls Tryd.prog 3 #[v, .int .i64 n] w fun e w' => e = .returned (.bool true) ∧ Below w.heap.size w w' := by
  obtain ⟨r, hr⟩ : ∃ r, cansw fs n = r := ⟨_, rfl⟩
  have HR := Lib.hid hr
  clear hr
  by_cases hn : ftN fs ≤ 1048576
  · have hz : szOf 1048576 (ftN fs) = 1048576 - (ftN fs : Int) := by unfold szOf; rw [if_neg (by omega)]
    obtain ⟨m, hm⟩ : ∃ m : Int, 1048576 - (ftN fs : Int) = m := ⟨_, rfl⟩
    rw [hm] at hz
    have hm0 : 0 ≤ m := by omega
    have HN := Lib.hid hn
    clear hm hn
    go_enter Tryd.func3, Tryd.ntmps3
    go_wp2_with fail
    refine (szFlatS_any fs v 1048576 _ hs (by omega) (by omega)).mono ?_
    rw [hz]
    rintro e w1 ⟨rfl, hb1⟩
    have hs1 := hs.below hb1
    have hw1 := hb1
    have ht1 := ht.below hb1
    clear hb1 hz
    go_wp2_with fail
    refine (toFlatS_any fs v _ hs1 HN.out).mono ?_
    rintro e w0 ⟨x0, rfl, ho0, hb0⟩
    have hw0 := hw1.trans (hb0.mono hw1.size)
    have hx0 := ho0.fts
    have ht0 := ht1.below hb0
    have hs0 := hs1.below hb0
    clear hb0 ho0
    go_wp2_with fail
    refine (specCS_b hx0 HR.out).mono ?_
    rintro e w2 ⟨rfl, hb_w2⟩
    have hs2 := hs0.below hb_w2
    have hw2 := hw0.trans (hb_w2.mono hw0.size)
    have ht2 := ht0.below hb_w2
    clear hb_w2
    go_wp2_with fail
    refine (toFlatS_any fs v _ hs2 HN.out).mono ?_
    rintro e w3 ⟨x3, rfl, ho3, hb3⟩
    have hw3 := hw2.trans (hb3.mono hw2.size)
    have hx3 := ho3.fts
    have ht3 := ht2.below hb3
    have hs3 := hs2.below hb3
    clear hb3 ho3
    go_wp2_with fail
    refine (implCS_b hx3 ht3 HR.out).mono ?_
    rintro e w5 ⟨rfl, hb5⟩
    have hw5 := hw3.trans (hb5.mono hw3.size)
    have hx5 := hx3.below hb5
    have hs5 := hs3.below hb5
    clear hb5
    go_wp2_with fail
    refine (toFlatS_any fs v _ hs5 HN.out).mono ?_
    rintro e w6 ⟨x6, rfl, ho6, hb6⟩
    have hw6 := hw5.trans (hb6.mono hw5.size)
    have hx6 := hx5.below hb6
    have hy6 := ho6.fts
    clear hb6 ho6
    go_wp2_with fail
    refine (eqFlatS_b hx6 hy6 (decide_eq_true rfl)).mono ?_
    rintro e w7 ⟨rfl, hb7⟩
    have hw7 := hw6.trans (hb7.mono hw6.size)
    clear hb7
    go_wp2
    go_ret
    exact ⟨rfl, hw7⟩
  · have hz : szOf 1048576 (ftN fs) = -1 := by unfold szOf; rw [if_pos (by omega)]
    go_enter Tryd.func3, Tryd.ntmps3
    go_wp2_with fail
    refine (szFlatS_any fs v 1048576 _ hs (by omega) (by omega)).mono ?_
    rw [hz]
    rintro e w1 ⟨rfl, hb1⟩
    have hw1 := hb1
    clear hb1
    go_wp2
    go_ret
    exact ⟨rfl, hw1⟩
end Go.Proofs.YtkcnbkkgpampaaaDoor
