/- Tests hold: the reference's. -/
import Derived.Test.YtfcbbahlhjdefaaDoorRsZ
import Derived.Test.YtfcbbahlhjdefaaDoorFmZ
import Derived.Test.YtfcbbahlhjdefaaDoorUSn
namespace Go.Proofs.YtfcbbahlhjdefaaDoor
open Go.RowKit
set_option maxHeartbeats 2000000 in
set_option maxRecDepth 100000 in
theorem specTHs_b {f lo hi a b c d : Int} {n r : Bool} (ht : Te.ok ⟨f, lo, hi, n⟩ = true) (hp : Pk.ok ⟨a, b, c, d⟩ = true) (h : tholds ⟨f, lo, hi, n⟩ ⟨a, b, c, d⟩ = r) (w : World) :
    Calls Tryd.prog 48 #[.agg #[.int .i64 f, .int .i64 lo, .int .i64 hi, .bool n], .agg #[.int .i64 a, .int .i64 b, .int .i64 c, .int .i64 d]] w fun e w' => e = .returned (.bool r) ∧ Below w.heap.size w w' := by
  obtain ⟨k, rfl, h4, -, -, -⟩ := tok_iff ht
  obtain ⟨W, hW⟩ : ∃ W, (w.alloc (.cells #[.int .i64 (k : Int), .int .i64 lo, .int .i64 hi, .bool n] 108)).alloc (.cells #[.int .i64 a, .int .i64 b, .int .i64 c, .int .i64 d] 27) = W := ⟨_, rfl⟩
  have hal : Below w.heap.size w W := by rw [← hW]; (repeat' (first | with_reducible exact Below.refl _ _ | with_reducible assumption | with_reducible refine Below.setCell ?_ ?_ _ | with_reducible refine Below.alloc ?_ ?_ _ | with_reducible refine Below.drew ?_ | with_reducible refine belDrewN ?_ _ | with_reducible refine Below.trans ?_ (Below.mono (by assumption) ?_) | omega | (simp; omega) | (simp; done)))
  have hz : w.heap.size + 1 < W.heap.size := by rw [← hW]; simp
  have HA := alloc2_cells w #[.int .i64 (k : Int), .int .i64 lo, .int .i64 hi, .bool n] #[.int .i64 a, .int .i64 b, .int .i64 c, .int .i64 d] 108 27
  rw [hW] at HA
  have t0 : W.cell? ⟨w.heap.size, 0, none⟩ = some (.int .i64 (k : Int)) := (HA.1 0).1
  have t1 : W.cell? ⟨w.heap.size, 1, none⟩ = some (.int .i64 lo) := (HA.1 1).1
  have t2 : W.cell? ⟨w.heap.size, 2, none⟩ = some (.int .i64 hi) := (HA.1 2).1
  have t3 : W.cell? ⟨w.heap.size, 3, none⟩ = some (.bool n) := (HA.1 3).1
  have p0 : W.cell? ⟨w.heap.size + 1, 0, none⟩ = some (.int .i64 a) := (HA.2 0).1
  have p1 : W.cell? ⟨w.heap.size + 1, 1, none⟩ = some (.int .i64 b) := (HA.2 1).1
  have p2 : W.cell? ⟨w.heap.size + 1, 2, none⟩ = some (.int .i64 c) := (HA.2 2).1
  have p3 : W.cell? ⟨w.heap.size + 1, 3, none⟩ = some (.int .i64 d) := (HA.2 3).1
  have hz0 : w.heap.size < W.heap.size := by omega
  obtain ⟨x, hx⟩ : ∃ x, Pk.fld ⟨a, b, c, d⟩ k = x := ⟨_, rfl⟩
  obtain ⟨q, hq⟩ : ∃ q, inB x lo hi = q := ⟨_, rfl⟩
  have HX := Lib.hid hx
  have HQ := Lib.hid hq
  have HP := Lib.hid hp
  have HT := Lib.hid (show tvalid1 (k : Int) lo hi = true from ht)
  have HF := Lib.hid (show ∀ w, Calls Tryd.prog 57 #[.agg #[.int .i64 a, .int .i64 b, .int .i64 c, .int .i64 d], .int .i64 k] w fun e w' => e = .returned (.int .i64 x) ∧ Below w.heap.size w w' from fun w => by have h9 := specPF_any a b c d k h4 hp w; rw [hx] at h9; exact h9)
  have HR := Lib.hid (show (q != n) = r by
    rw [← h]
    unfold tholds
    simp only [Int.toNat_natCast]
    rw [hx, hq])
  have HAL := Lib.hid hal
  clear HA ht hp h hx hq hal h4
  go_enter Tryd.func48, Tryd.ntmps48
  go_wp2_with fail
  clear hW
  (refine wp_region_belG (W := W) [BIs (.agg #[.int .i64 (k : Int), .int .i64 lo, .int .i64 hi, .bool n]), (BIs (.bool true)), BIs (.bool true), BIs (.agg #[.int .i64 a, .int .i64 b, .int .i64 c, .int .i64 d]), (BIs (.bool true)), BIs (.bool true), BIs (.bool true), BIs (.agg #[.int .i64 a, .int .i64 b, .int .i64 c, .int .i64 d]), BIs (.pointer (some ⟨w.heap.size, 0, none⟩)), BIs (.int .i64 (k : Int)), (BIs (.int .i64 x)), BIs (.pointer (some ⟨w.heap.size, 1, none⟩)), BIs (.int .i64 lo), BIs (.pointer (some ⟨w.heap.size, 2, none⟩)), BIs (.int .i64 hi), (BIs (.bool q)), BIs (.pointer (some ⟨w.heap.size, 3, none⟩)), BIs (.bool n), (BIs (.bool r)), BIs (.bool r), BIs (.bool r)] (by kernel_rfl) (fun u => by simp only [frU, Act.put, List.setIfInBounds_toArray, List.set_cons_succ, List.set_cons_zero, Nat.zero_add, Nat.reduceAdd]; exact rfl) (by kernel_rfl) ⟨bst_is _, (bst_is _), bst_is _, bst_is _, (bst_is _), bst_is _, bst_is _, bst_is _, bst_is _, bst_is _, (bst_is _), bst_is _, bst_is _, bst_is _, bst_is _, (bst_is _), bst_is _, bst_is _, (bst_is _), bst_is _, bst_is _, trivial⟩ ?_ ?_; exact ⟨stG (fun u w3 hC hd => ⟨rfl, fun Q K hK => by (have z0 := (hC.cell (p := ⟨w.heap.size, 0, none⟩) hz0).trans t0; have z1 := (hC.cell (p := ⟨w.heap.size, 1, none⟩) hz0).trans t1; have z2 := (hC.cell (p := ⟨w.heap.size, 2, none⟩) hz0).trans t2; have z3 := (hC.cell (p := ⟨w.heap.size, 3, none⟩) hz0).trans t3; go_step; exact hK _ _ rfl (Below.refl _ _) rfl)⟩), stG (fun u w3 hC hd => ⟨rfl, fun Q K hK => by (have hu := bis (w := w3) (hd 0 rfl); rw [hu] at hK ⊢; clear hu; go_step; refine (specTV_b HT.out _).mono ?_; rintro e w4 ⟨rfl, hb4⟩; exact hK _ _ rfl hb4 rfl)⟩), stG (fun u w3 hC hd => ⟨rfl, fun Q K hK => by (have hu := bis (w := w3) (hd 1 rfl); rw [hu] at hK ⊢; clear hu; go_step; exact hK _ _ rfl (Below.refl _ _) rfl)⟩), stG (fun u w3 hC hd => ⟨by (have hu := bis (w := w3) (hd 2 rfl); rw [hu]; rfl), fun Q K hK => by (have z0 := (hC.cell (p := ⟨w.heap.size + 1, 0, none⟩) hz).trans p0; have z1 := (hC.cell (p := ⟨w.heap.size + 1, 1, none⟩) hz).trans p1; have z2 := (hC.cell (p := ⟨w.heap.size + 1, 2, none⟩) hz).trans p2; have z3 := (hC.cell (p := ⟨w.heap.size + 1, 3, none⟩) hz).trans p3; go_step; exact hK _ _ rfl (Below.refl _ _) rfl)⟩), stG (fun u w3 hC hd => ⟨by (have hu := bis (w := w3) (hd 2 rfl); rw [hu]; rfl), fun Q K hK => by (have hu := bis (w := w3) (hd 3 rfl); rw [hu] at hK ⊢; clear hu; go_step; refine (specPV_b HP.out _).mono ?_; rintro e w4 ⟨rfl, hb4⟩; exact hK _ _ rfl hb4 rfl)⟩), stG (fun u w3 hC hd => ⟨rfl, fun Q K hK => by (have hu := bis (w := w3) (hd 2 rfl); rw [hu] at hK ⊢; clear hu; have hu := bis (w := w3) (hd 4 rfl); rw [hu] at hK ⊢; clear hu; go_step; exact hK _ _ rfl (Below.refl _ _) rfl)⟩), stG (fun u w3 hC hd => ⟨rfl, fun Q K hK => by (have hu := bis (w := w3) (hd 5 rfl); rw [hu] at hK ⊢; clear hu; go_step; exact hK _ _ rfl (Below.refl _ _) rfl)⟩), stG (fun u w3 hC hd => ⟨by (have hu := bis (w := w3) (hd 6 rfl); rw [hu]; rfl), fun Q K hK => by (have z0 := (hC.cell (p := ⟨w.heap.size + 1, 0, none⟩) hz).trans p0; have z1 := (hC.cell (p := ⟨w.heap.size + 1, 1, none⟩) hz).trans p1; have z2 := (hC.cell (p := ⟨w.heap.size + 1, 2, none⟩) hz).trans p2; have z3 := (hC.cell (p := ⟨w.heap.size + 1, 3, none⟩) hz).trans p3; go_step; exact hK _ _ rfl (Below.refl _ _) rfl)⟩), stG (fun u w3 hC hd => ⟨by (have hu := bis (w := w3) (hd 6 rfl); rw [hu]; rfl), fun Q K hK => by (go_step; exact hK _ _ rfl (Below.refl _ _) rfl)⟩), stG (fun u w3 hC hd => ⟨by (have hu := bis (w := w3) (hd 6 rfl); rw [hu]; rfl), fun Q K hK => by (have hu := bis (w := w3) (hd 8 rfl); rw [hu] at hK ⊢; clear hu; have z0 := (hC.cell (p := ⟨w.heap.size, 0, none⟩) hz0).trans t0; go_step; exact hK _ _ rfl (Below.refl _ _) rfl)⟩), stG (fun u w3 hC hd => ⟨by (have hu := bis (w := w3) (hd 6 rfl); rw [hu]; rfl), fun Q K hK => by (have hu := bis (w := w3) (hd 7 rfl); rw [hu] at hK ⊢; clear hu; have hu := bis (w := w3) (hd 9 rfl); rw [hu] at hK ⊢; clear hu; go_step; refine (HF.out _).mono ?_; rintro e w4 ⟨rfl, hb4⟩; exact hK _ _ rfl hb4 rfl)⟩), stG (fun u w3 hC hd => ⟨by (have hu := bis (w := w3) (hd 6 rfl); rw [hu]; rfl), fun Q K hK => by (go_step; exact hK _ _ rfl (Below.refl _ _) rfl)⟩), stG (fun u w3 hC hd => ⟨by (have hu := bis (w := w3) (hd 6 rfl); rw [hu]; rfl), fun Q K hK => by (have hu := bis (w := w3) (hd 11 rfl); rw [hu] at hK ⊢; clear hu; have z0 := (hC.cell (p := ⟨w.heap.size, 1, none⟩) hz0).trans t1; go_step; exact hK _ _ rfl (Below.refl _ _) rfl)⟩), stG (fun u w3 hC hd => ⟨by (have hu := bis (w := w3) (hd 6 rfl); rw [hu]; rfl), fun Q K hK => by (go_step; exact hK _ _ rfl (Below.refl _ _) rfl)⟩), stG (fun u w3 hC hd => ⟨by (have hu := bis (w := w3) (hd 6 rfl); rw [hu]; rfl), fun Q K hK => by (have hu := bis (w := w3) (hd 13 rfl); rw [hu] at hK ⊢; clear hu; have z0 := (hC.cell (p := ⟨w.heap.size, 2, none⟩) hz0).trans t2; go_step; exact hK _ _ rfl (Below.refl _ _) rfl)⟩), stG (fun u w3 hC hd => ⟨by (have hu := bis (w := w3) (hd 6 rfl); rw [hu]; rfl), fun Q K hK => by (have hu := bis (w := w3) (hd 10 rfl); rw [hu] at hK ⊢; clear hu; have hu := bis (w := w3) (hd 12 rfl); rw [hu] at hK ⊢; clear hu; have hu := bis (w := w3) (hd 14 rfl); rw [hu] at hK ⊢; clear hu; go_step; refine (l1In_b HQ.out _).mono ?_; rintro e _ ⟨rfl, rfl⟩; exact hK _ _ rfl (Below.refl _ _) rfl)⟩), stG (fun u w3 hC hd => ⟨by (have hu := bis (w := w3) (hd 6 rfl); rw [hu]; rfl), fun Q K hK => by (go_step; exact hK _ _ rfl (Below.refl _ _) rfl)⟩), stG (fun u w3 hC hd => ⟨by (have hu := bis (w := w3) (hd 6 rfl); rw [hu]; rfl), fun Q K hK => by (have hu := bis (w := w3) (hd 16 rfl); rw [hu] at hK ⊢; clear hu; have z0 := (hC.cell (p := ⟨w.heap.size, 3, none⟩) hz0).trans t3; go_step; exact hK _ _ rfl (Below.refl _ _) rfl)⟩), stG (fun u w3 hC hd => ⟨by (have hu := bis (w := w3) (hd 6 rfl); rw [hu]; rfl), fun Q K hK => by (have hu := bis (w := w3) (hd 15 rfl); rw [hu] at hK ⊢; clear hu; have hu := bis (w := w3) (hd 17 rfl); rw [hu] at hK ⊢; clear hu; (go_step; exact hK _ _ rfl (Below.refl _ _) (by first | exact congrArg Value.bool HR.out | (have h9 := HR.out; cases q <;> cases n <;> cases r <;> first | rfl | cases h9))))⟩), stG (fun u w3 hC hd => ⟨rfl, fun Q K hK => by (have hu := bis (w := w3) (hd 6 rfl); rw [hu] at hK ⊢; clear hu; have hu := bis (w := w3) (hd 18 rfl); rw [hu] at hK ⊢; clear hu; go_step; exact hK _ _ rfl (Below.refl _ _) rfl)⟩), stG (fun u w3 hC hd => ⟨rfl, fun Q K hK => by (have hu := bis (w := w3) (hd 19 rfl); rw [hu] at hK ⊢; clear hu; go_step; exact hK _ _ rfl (Below.refl _ _) rfl)⟩), trivial⟩); intro u w9 hb_w9 hF; rw [bis (w := w9) (hF 0 (by decide))]; generalize u 1 = vx1 at *; rw [bis (w := w9) (hF 2 (by decide))]; rw [bis (w := w9) (hF 3 (by decide))]; generalize u 4 = vx4 at *; rw [bis (w := w9) (hF 5 (by decide))]; rw [bis (w := w9) (hF 6 (by decide))]; rw [bis (w := w9) (hF 7 (by decide))]; rw [bis (w := w9) (hF 8 (by decide))]; rw [bis (w := w9) (hF 9 (by decide))]; generalize u 10 = vx10 at *; rw [bis (w := w9) (hF 11 (by decide))]; rw [bis (w := w9) (hF 12 (by decide))]; rw [bis (w := w9) (hF 13 (by decide))]; rw [bis (w := w9) (hF 14 (by decide))]; generalize u 15 = vx15 at *; rw [bis (w := w9) (hF 16 (by decide))]; rw [bis (w := w9) (hF 17 (by decide))]; generalize u 18 = vx18 at *; rw [bis (w := w9) (hF 19 (by decide))]; rw [bis (w := w9) (hF 20 (by decide))]; clear hF
  have HB := Lib.hid (HAL.out.trans (hb_w9.mono HAL.out.size))
  clear hb_w9
  go_wp2
  go_ret
  exact ⟨rfl, HB.out⟩
set_option maxHeartbeats 2000000 in
set_option maxRecDepth 100000 in
theorem specTsH_b {lo : Nat} {v : Value} {ts : List Te} {a b c d : Int} {r : Bool} (w : World) (hs : Tss lo w v ts) (hv : tsvalid ts = true) (hp : Pk.ok ⟨a, b, c, d⟩ = true) (h : thold ts ⟨a, b, c, d⟩ = r) :
    Calls Tryd.prog 33 #[v, .agg #[.int .i64 a, .int .i64 b, .int .i64 c, .int .i64 d]] w fun e w' => e = .returned (.bool r) ∧ Below w.heap.size w w' := by
  obtain ⟨va, vc, rfl, h1, h2⟩ := hs.form
  obtain ⟨W, hW⟩ : ∃ W, w.alloc (.cells #[.int .i64 a, .int .i64 b, .int .i64 c, .int .i64 d] 27) = W := ⟨_, rfl⟩
  have hal : Below w.heap.size w W := by rw [← hW]; exact (Below.refl _ _).alloc (Nat.le_refl _) _
  have hz0 : w.heap.size < W.heap.size := by rw [← hW]; simp
  have p0 : W.cell? ⟨w.heap.size, 0, none⟩ = some (.int .i64 a) := by rw [← hW]; simp
  have p1 : W.cell? ⟨w.heap.size, 1, none⟩ = some (.int .i64 b) := by rw [← hW]; simp
  have p2 : W.cell? ⟨w.heap.size, 2, none⟩ = some (.int .i64 c) := by rw [← hW]; simp
  have p3 : W.cell? ⟨w.heap.size, 3, none⟩ = some (.int .i64 d) := by rw [← hW]; simp
  obtain ⟨n, hn⟩ : ∃ n, ts.length = n := ⟨_, rfl⟩
  have h6 : n ≤ 6 := by unfold tsvalid at hv; rw [Bool.and_eq_true, decide_eq_true_eq] at hv; omega
  rw [hn] at hs h1 ⊢
  have HN := Lib.hid hn
  have HS := Lib.hid (hs.below hal)
  have HV := Lib.hid hv
  have HP := Lib.hid hp
  have HR := Lib.hid h
  have HAL := Lib.hid hal
  have HK := Lib.hid (show ∀ w1, Below W.heap.size W w1 → w1.cell? ⟨w.heap.size, 0, none⟩ = some (.int .i64 a) ∧ w1.cell? ⟨w.heap.size, 1, none⟩ = some (.int .i64 b) ∧ w1.cell? ⟨w.heap.size, 2, none⟩ = some (.int .i64 c) ∧ w1.cell? ⟨w.heap.size, 3, none⟩ = some (.int .i64 d) from fun w1 hb =>
    ⟨(hb.cell (p := ⟨w.heap.size, 0, none⟩) hz0).trans p0, (hb.cell (p := ⟨w.heap.size, 1, none⟩) hz0).trans p1, (hb.cell (p := ⟨w.heap.size, 2, none⟩) hz0).trans p2, (hb.cell (p := ⟨w.heap.size, 3, none⟩) hz0).trans p3⟩)
  clear hn hs hv hp h hal p0 p1 p2 p3 h2
  go_enter Tryd.func33, Tryd.ntmps33
  go_wp2_with fail
  clear hW
  go_loopw [5] (fun i wr => ∃ j : Nat, j ≤ n ∧ i = .int .i64 j ∧ Hid (thold (ts.take j) ⟨a, b, c, d⟩ = true) ∧ Hid (Below W.heap.size W wr)) (fun i _ => n - (intOf i).toNat)
  case atStart => exact ⟨0, by omega, rfl, Lib.hid rfl, Lib.hid (Below.refl _ _)⟩
  case round =>
    obtain ⟨j, hj, rfl, HT, HB⟩ := hrel
    have hzr := HB.out.size
    obtain ⟨q0, q1, q2, q3⟩ := HK.out wr HB.out
    have hzz : w.heap.size < wr.heap.size := by omega
    by_cases hjn : j < n
    · have j3 : (j : Int) < (n : Int) := by omega
      have j4 : (0 : Int) ≤ (j : Int) := by omega
      obtain ⟨bb, o, f, tl, th, tq, rfl, hbl, hx, c0, c1, c2, c3⟩ := ((HS.out.below HB.out).z).at (show j < ts.length by rw [HN.out]; exact hjn)
      have htok : Te.ok ⟨f, tl, th, tq⟩ = true := by
        have h9 := HV.out
        unfold tsvalid at h9
        rw [Bool.and_eq_true] at h9
        exact (List.all_eq_true.1 h9.1) _ (List.mem_of_getElem? hx)
      obtain ⟨s, hs⟩ : ∃ s, tholds ⟨f, tl, th, tq⟩ ⟨a, b, c, d⟩ = s := ⟨_, rfl⟩
      have HTK := Lib.hid htok
      have HSS := Lib.hid hs
      have HX := Lib.hid hx
      clear htok hs hx
      go_wp2_with fail
      (refine wp_region_bel (W := wr) [BIs (.slice (some ⟨bb, o, none⟩) n vc), BIs (.int .i64 (j : Int)), BIs (.pointer (some ⟨bb, o + j * 4, none⟩)), BIs (.agg #[.int .i64 f, .int .i64 tl, .int .i64 th, .bool tq]), BIs (.agg #[.int .i64 a, .int .i64 b, .int .i64 c, .int .i64 d]), (BIs (.bool s)), BIs (.bool (!s))] (by kernel_rfl) (fun u => by simp only [frU, Act.put, List.setIfInBounds_toArray, List.set_cons_succ, List.set_cons_zero, Nat.zero_add, Nat.reduceAdd]; exact rfl) (by kernel_rfl) ⟨bst_is _, bst_is _, bst_is _, bst_is _, bst_is _, (bst_is _), bst_is _, trivial⟩ ?_ ?_; exact ⟨stB rfl (fun u w3 hC hd Q K hK => by (go_step; exact hK _ _ rfl (Below.refl _ _) rfl)), stB rfl (fun u w3 hC hd Q K hK => by (go_step; exact hK _ _ rfl (Below.refl _ _) rfl)), stB rfl (fun u w3 hC hd Q K hK => by (have hu := bis (w := w3) (hd 0 rfl); rw [hu] at hK ⊢; clear hu; have hu := bis (w := w3) (hd 1 rfl); rw [hu] at hK ⊢; clear hu; go_step; exact hK _ _ rfl (Below.refl _ _) rfl)), stB rfl (fun u w3 hC hd Q K hK => by (have hu := bis (w := w3) (hd 2 rfl); rw [hu] at hK ⊢; clear hu; have z0 := (hC.cell (p := ⟨bb, o + j * 4, none⟩) hbl).trans c0; have z1 := (hC.cell (p := ⟨bb, o + j * 4 + 1, none⟩) hbl).trans c1; have z2 := (hC.cell (p := ⟨bb, o + j * 4 + 2, none⟩) hbl).trans c2; have z3 := (hC.cell (p := ⟨bb, o + j * 4 + 3, none⟩) hbl).trans c3; go_step; exact hK _ _ rfl (Below.refl _ _) rfl)), stB rfl (fun u w3 hC hd Q K hK => by (have z0 := (hC.cell (p := ⟨w.heap.size, 0, none⟩) hzz).trans q0; have z1 := (hC.cell (p := ⟨w.heap.size, 1, none⟩) hzz).trans q1; have z2 := (hC.cell (p := ⟨w.heap.size, 2, none⟩) hzz).trans q2; have z3 := (hC.cell (p := ⟨w.heap.size, 3, none⟩) hzz).trans q3; go_step; exact hK _ _ rfl (Below.refl _ _) rfl)), stB rfl (fun u w3 hC hd Q K hK => by (have hu := bis (w := w3) (hd 3 rfl); rw [hu] at hK ⊢; clear hu; have hu := bis (w := w3) (hd 4 rfl); rw [hu] at hK ⊢; clear hu; go_step; refine (specTHs_b HTK.out HP.out HSS.out _).mono ?_; rintro e w4 ⟨rfl, hb4⟩; exact hK _ _ rfl hb4 rfl)), stB rfl (fun u w3 hC hd Q K hK => by (have hu := bis (w := w3) (hd 5 rfl); rw [hu] at hK ⊢; clear hu; go_step; exact hK _ _ rfl (Below.refl _ _) rfl)), trivial⟩); intro u w9 hb_w9 hF; rw [bis (w := w9) (hF 0 (by decide))]; rw [bis (w := w9) (hF 1 (by decide))]; rw [bis (w := w9) (hF 2 (by decide))]; rw [bis (w := w9) (hF 3 (by decide))]; rw [bis (w := w9) (hF 4 (by decide))]; generalize u 5 = vx5 at *; rw [bis (w := w9) (hF 6 (by decide))]; clear hF
      have HB9 := Lib.hid (HB.out.trans (hb_w9.mono HB.out.size))
      clear hb_w9
      cases s
      · have HF := Lib.hid (show r = false by
          rw [← HR.out]
          unfold thold
          rw [List.all_eq_false]
          exact ⟨_, List.mem_of_getElem? HX.out, by rw [HSS.out]; simp⟩)
        go_wp2
        go_ret
        exact ⟨by rw [HF.out]; rfl, HAL.out.trans (HB9.out.mono HAL.out.size)⟩
      · have HT2 := Lib.hid (show thold (ts.take (j + 1)) ⟨a, b, c, d⟩ = true by
          have h9 := HT.out
          unfold thold at h9 ⊢
          rw [List.take_add_one, HX.out, Option.toList_some, List.all_append, h9, List.all_cons, HSS.out]; rfl)
        go_wp2
        go_roundw
        case rel => exact ⟨j + 1, by omega, by go_num, HT2, HB9⟩
        case measure => simp [intOf]; omega
    · have HF := Lib.hid (show r = true by
        have h9 := HT.out
        rw [List.take_of_length_le (by rw [HN.out]; omega)] at h9
        rw [← HR.out, h9])
      go_wp2_with fail
      refine (specTsG_b (HS.out.below HB.out) HV.out).mono ?_
      rintro e w2 ⟨rfl, hb2⟩
      have HB2 := Lib.hid (HB.out.trans (hb2.mono HB.out.size))
      obtain ⟨u0, u1, u2, u3⟩ := HK.out w2 HB2.out
      clear hb2 q0 q1 q2 q3
      go_wp2_with fail
      refine (specPV_b HP.out _).mono ?_
      rintro e w3 ⟨rfl, hb3⟩
      have HB3 := Lib.hid (HB2.out.trans (hb3.mono HB2.out.size))
      clear hb3
      go_wp2
      go_ret
      exact ⟨by rw [HF.out]; rfl, HAL.out.trans (HB3.out.mono HAL.out.size)⟩
end Go.Proofs.YtfcbbahlhjdefaaDoor
