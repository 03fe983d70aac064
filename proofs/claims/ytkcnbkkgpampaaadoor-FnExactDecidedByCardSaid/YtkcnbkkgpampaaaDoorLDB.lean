/- The exact law on DecidedBy: the walk. -/
import Derived.Test.YtkcnbkkgpampaaaDoorFmK
import Derived.Test.YtkcnbkkgpampaaaDoorFmE
import Derived.Test.YtkcnbkkgpampaaaDoorBase
namespace Go.Proofs.YtkcnbkkgpampaaaDoor
open Go.RowKit
set_option maxHeartbeats 400000 in
theorem toPacket_any (a b c d : Int) (w : World) :
    Calls Tryd.prog 21 #[.agg #[.int .i64 a, .int .i64 b, .int .i64 c, .int .i64 d]] w fun e w' => e = .returned (.agg #[.int .i64 a, .int .i64 b, .int .i64 c, .int .i64 d]) ∧ Below w.heap.size w w' := by
  go_enter Tryd.func21, Tryd.ntmps21
  go_wp2
  exact bodyPost_ret (v := .agg #[.int .i64 a, .int .i64 b, .int .i64 c, .int .i64 d]) (by simp [results, Tryd.results21, go_sem]) rfl ⟨rfl, by (repeat' (first | with_reducible exact Below.refl _ _ | with_reducible assumption | with_reducible refine Below.setCell ?_ ?_ _ | with_reducible refine Below.alloc ?_ ?_ _ | with_reducible refine Below.drew ?_ | with_reducible refine belDrewN ?_ _ | with_reducible refine Below.trans ?_ (Below.mono (by assumption) ?_) | omega | (simp; omega) | (simp; done)))⟩
theorem specDB_b {lo : Nat} {fs : List Ft} {v : Value} {p1 p2 p3 p4 : Int} {w : World} {r : Int} (hs : Fts lo w v fs) (h : dby fs ⟨p1, p2, p3, p4⟩ = r) :
    Calls Tryd.prog 20 #[v, .agg #[.int .i64 p1, .int .i64 p2, .int .i64 p3, .int .i64 p4]] w fun e w' => e = .returned (.int .i64 r) ∧ Below w.heap.size w w' := by
  subst h
  exact specDB_any fs v p1 p2 p3 p4 w hs
theorem implDB_b {lo : Nat} {fs : List Ft} {v : Value} {p1 p2 p3 p4 : Int} {w : World} {r : Int} (hs : Fts lo w v fs) (ht : Tab w) (h : dby fs ⟨p1, p2, p3, p4⟩ = r) :
    Calls Tryd.prog 22 #[v, .agg #[.int .i64 p1, .int .i64 p2, .int .i64 p3, .int .i64 p4]] w fun e w' => e = .returned (.int .i64 r) ∧ Below w.heap.size w w' := by
  subst h
  exact implDB_any fs v p1 p2 p3 p4 w hs ht
set_option maxHeartbeats 2000000 in
theorem law_FnExactDecidedBy (fs : List Ft) (v : Value) (p1 p2 p3 p4 : Int) (w : World) (hs : Fts 0 w v fs) (ht : Tab w) :
    Calls Tryd.prog 4 #[v, .agg #[.int .i64 p1, .int .i64 p2, .int .i64 p3, .int .i64 p4]] w fun e w' => e = .returned (.bool true) ∧ Below w.heap.size w w' := by
  have hal : Below w.heap.size w (w.alloc (.cells #[.int .i64 p1, .int .i64 p2, .int .i64 p3, .int .i64 p4] 30)) := (Below.refl _ _).alloc (Nat.le_refl _) _
  obtain ⟨W, hW⟩ : ∃ W, w.alloc (.cells #[.int .i64 p1, .int .i64 p2, .int .i64 p3, .int .i64 p4] 30) = W := ⟨_, rfl⟩
  have r0 : W.cell? ⟨w.heap.size, 0, none⟩ = some (.int .i64 p1) := by rw [← hW]; simp
  have r1 : W.cell? ⟨w.heap.size, 1, none⟩ = some (.int .i64 p2) := by rw [← hW]; simp
  have r2 : W.cell? ⟨w.heap.size, 2, none⟩ = some (.int .i64 p3) := by rw [← hW]; simp
  have r3 : W.cell? ⟨w.heap.size, 3, none⟩ = some (.int .i64 p4) := by rw [← hW]; simp
  have qs : w.heap.size < W.heap.size := by rw [← hW]; simp
  rw [hW] at hal
  have hsW := hs.below hal
  have htW := ht.below hal
  obtain ⟨r, hr⟩ : ∃ r, dby fs ⟨p1, p2, p3, p4⟩ = r := ⟨_, rfl⟩
  have HR := Lib.hid hr
  clear hr
  by_cases hn : ftN fs ≤ 1048576
  · have hz : szOf 1048576 (ftN fs) = 1048576 - (ftN fs : Int) := by unfold szOf; rw [if_neg (by omega)]
    obtain ⟨m, hm⟩ : ∃ m : Int, 1048576 - (ftN fs : Int) = m := ⟨_, rfl⟩
    rw [hm] at hz
    have hm0 : 0 ≤ m := by omega
    have HN := Lib.hid hn
    clear hm hn
    go_enter Tryd.func4, Tryd.ntmps4
    go_wp2_with fail
    refine (szFlatS_any fs v 1048576 _ hsW (by omega) (by omega)).mono ?_
    rw [hz]
    rintro e w1 ⟨rfl, hb1⟩
    have hs1 := hsW.below hb1
    have e0 := (hb1.cell (p := ⟨w.heap.size, 0, none⟩) qs).trans r0
    have e1 := (hb1.cell (p := ⟨w.heap.size, 1, none⟩) qs).trans r1
    have e2 := (hb1.cell (p := ⟨w.heap.size, 2, none⟩) qs).trans r2
    have e3 := (hb1.cell (p := ⟨w.heap.size, 3, none⟩) qs).trans r3
    have qs1 : w.heap.size < w1.heap.size := Nat.lt_of_lt_of_le qs hb1.size
    have hw1 := hal.trans (hb1.mono hal.size)
    have ht1 := htW.below hb1
    clear hb1 hW hz
    go_wp2_with fail
    (refine wp_region_bel (W := w1) [BIs (v), (fun w u => Fts 0 w u fs), BIs (.agg #[.int .i64 p1, .int .i64 p2, .int .i64 p3, .int .i64 p4]), (BIs (.agg #[.int .i64 p1, .int .i64 p2, .int .i64 p3, .int .i64 p4])), (BIs (.int .i64 r)), BIs (.int .i64 r)] (by kernel_rfl) (fun u => by simp only [frU, Act.put, List.setIfInBounds_toArray, List.set_cons_succ, List.set_cons_zero, Nat.zero_add, Nat.reduceAdd]; exact rfl) (by kernel_rfl) ⟨bst_is _, (fun _ _ _ hb h => h.below hb), bst_is _, (bst_is _), (bst_is _), bst_is _, trivial⟩ ?_ ?_; exact ⟨stB rfl (fun u w3 hC hd Q K hK => by (go_step; exact hK _ _ rfl (Below.refl _ _) rfl)), stB rfl (fun u w3 hC hd Q K hK => by (have hu := bis (w := w3) (hd 0 rfl); rw [hu] at hK ⊢; clear hu; go_step; refine (toFlatS_any fs v _ (hs1.below hC) HN.out).mono ?_; rintro e w4 ⟨v4, rfl, ho4, hb4⟩; exact hK _ _ rfl hb4 (ho4.fts.mono (Nat.zero_le _)))), stB rfl (fun u w3 hC hd Q K hK => by (have g0 := (hC.cell (p := ⟨w.heap.size, 0, none⟩) qs1).trans e0; have g1 := (hC.cell (p := ⟨w.heap.size, 1, none⟩) qs1).trans e1; have g2 := (hC.cell (p := ⟨w.heap.size, 2, none⟩) qs1).trans e2; have g3 := (hC.cell (p := ⟨w.heap.size, 3, none⟩) qs1).trans e3; go_step; exact hK _ _ rfl (Below.refl _ _) rfl)), stB rfl (fun u w3 hC hd Q K hK => by (have hu := bis (w := w3) (hd 2 rfl); rw [hu] at hK ⊢; clear hu; go_step; refine (toPacket_any _ _ _ _ _).mono ?_; rintro e w4 ⟨rfl, hb4⟩; exact hK _ _ rfl hb4 rfl)), stB rfl (fun u w3 hC hd Q K hK => by (have hi1 := hd 1 rfl; generalize u 1 = v1 at *; have hu := bis (w := w3) (hd 3 rfl); rw [hu] at hK ⊢; clear hu; go_step; refine (specDB_b hi1 HR.out).mono ?_; rintro e w4 ⟨rfl, hb4⟩; exact hK _ _ rfl hb4 rfl)), stB rfl (fun u w3 hC hd Q K hK => by (have hu := bis (w := w3) (hd 4 rfl); rw [hu] at hK ⊢; clear hu; go_step; exact hK _ _ rfl (Below.refl _ _) rfl)), trivial⟩); intro u w2 hb_w2 hF; rw [bis (w := w2) (hF 0 (by decide))]; generalize u 1 = vx1 at *; rw [bis (w := w2) (hF 2 (by decide))]; generalize u 3 = vx3 at *; generalize u 4 = vx4 at *; rw [bis (w := w2) (hF 5 (by decide))]; clear hF
    have hs2 := hs1.below hb_w2
    have hw2 := hw1.trans (hb_w2.mono hw1.size)
    have f0 := (hb_w2.cell (p := ⟨w.heap.size, 0, none⟩) qs1).trans e0
    have f1 := (hb_w2.cell (p := ⟨w.heap.size, 1, none⟩) qs1).trans e1
    have f2 := (hb_w2.cell (p := ⟨w.heap.size, 2, none⟩) qs1).trans e2
    have f3 := (hb_w2.cell (p := ⟨w.heap.size, 3, none⟩) qs1).trans e3
    have qs2 : w.heap.size < w2.heap.size := Nat.lt_of_lt_of_le qs1 hb_w2.size
    have ht2 := ht1.below hb_w2
    clear hb_w2
    go_wp2_with fail
    refine (toFlatS_any fs v _ hs2 HN.out).mono ?_
    rintro e w3 ⟨x3, rfl, ho3, hb3⟩
    have hw3 := hw2.trans (hb3.mono hw2.size)
    have hx3 := ho3.fts
    have g0 := (hb3.cell (p := ⟨w.heap.size, 0, none⟩) qs2).trans f0
    have g1 := (hb3.cell (p := ⟨w.heap.size, 1, none⟩) qs2).trans f1
    have g2 := (hb3.cell (p := ⟨w.heap.size, 2, none⟩) qs2).trans f2
    have g3 := (hb3.cell (p := ⟨w.heap.size, 3, none⟩) qs2).trans f3
    have ht3 := ht2.below hb3
    have hs3 := hs2.below hb3
    clear hb3 ho3
    go_wp2_with fail
    refine (toPacket_any _ _ _ _ _).mono ?_
    rintro e w4 ⟨rfl, hb4⟩
    have hw4 := hw3.trans (hb4.mono hw3.size)
    have hx4 := hx3.below hb4
    have ht4 := ht3.below hb4
    have hs4 := hs3.below hb4
    clear hb4
    go_wp2_with fail
    refine (implDB_b hx4 ht4 HR.out).mono ?_
    rintro e w5 ⟨rfl, hb5⟩
    have hw5 := hw4.trans (hb5.mono hw4.size)
    have hx5 := hx4.below hb5
    have hs5 := hs4.below hb5
    clear hb5
    go_wp2_with fail
    refine (toFlatS_any fs v _ hs5 HN.out).mono ?_
    rintro e w6 ⟨x6, rfl, ho6, hb6⟩
    have hw6 := hw5.trans (hb6.mono hw5.size)
    have hx6 := hx5.below hb6
    have hy6 := ho6.fts
    clear hb6 ho6
    go_wp2_with fail
    refine (eqFlatS_b hx6 hy6 (decide_eq_true rfl)).mono ?_
    rintro e w7 ⟨rfl, hb7⟩
    have hw7 := hw6.trans (hb7.mono hw6.size)
    clear hb7
    go_wp2
    go_ret
    exact ⟨rfl, hw7⟩
  · have hz : szOf 1048576 (ftN fs) = -1 := by unfold szOf; rw [if_pos (by omega)]
    go_enter Tryd.func4, Tryd.ntmps4
    go_wp2_with fail
    refine (szFlatS_any fs v 1048576 _ hsW (by omega) (by omega)).mono ?_
    rw [hz]
    rintro e w1 ⟨rfl, hb1⟩
    have hw1 := hal.trans (hb1.mono hal.size)
    clear hb1 hW
    go_wp2
    go_ret
    exact ⟨rfl, hw1⟩
end Go.Proofs.YtkcnbkkgpampaaaDoor
