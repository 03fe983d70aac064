/- Merging boxes: the program's walk. -/
import Derived.Test.YtajcogpfmpehkaaDoorMbMf
import Derived.Test.YtajcogpfmpehkaaDoorRgI
import Derived.Test.YtajcogpfmpehkaaDoorSwU
import Derived.Test.YtajcogpfmpehkaaDoorFnX
import Derived.Test.YtajcogpfmpehkaaDoorLvP
import Derived.Deep.DeepCutAuto
namespace Go.Proofs.YtajcogpfmpehkaaDoor
open Go.RowKit
theorem alloc2_cf (w : World) (A B : Array Value) (t1 t2 : Nat) :
    (∀ k, ((w.alloc (.cells A t1)).alloc (.cells B t2)).cell? ⟨w.heap.size, k, none⟩ = A[k]? ∧ ((w.alloc (.cells A t1)).alloc (.cells B t2)).frozen? ⟨w.heap.size, k, none⟩ = false) ∧ (∀ k, ((w.alloc (.cells A t1)).alloc (.cells B t2)).cell? ⟨w.heap.size + 1, k, none⟩ = B[k]? ∧ ((w.alloc (.cells A t1)).alloc (.cells B t2)).frozen? ⟨w.heap.size + 1, k, none⟩ = false) := by
  refine ⟨fun k => ⟨?_, ?_⟩, fun k => ⟨?_, ?_⟩⟩ <;> go_simp
theorem bout_isE {a b : Bx} {k : Nat} {L : List Sp} (h : bout a b k = L) : (bout a b k).isEmpty = decide (L.length = 0) := by
  rw [h]; cases L <;> simp
theorem bwithin_no {a b : Bx} {k : Nat} (hk : k < 4) (he : bempty a = false) (h : (bout a b k).isEmpty = false) : bwithin a b = false := by
  unfold bwithin
  rw [he, Bool.false_or, ← Bool.not_eq_true, List.all_eq_true]
  intro g
  rw [g k (List.mem_range.2 hk)] at h; cases h
theorem bwithin_yes {a b : Bx} (h : ∀ k, k < 4 → (bout a b k).isEmpty = true) : bwithin a b = true := by
  unfold bwithin
  rw [Bool.or_eq_true, List.all_eq_true]
  exact .inr (fun k hk => h k (List.mem_range.1 hk))
set_option maxHeartbeats 4000000 in
set_option maxRecDepth 100000 in
theorem within_any {lo lo' : Nat} (a b : Bx) (v0 v1 v2 v3 u0 u1 u2 u3 : Value) (w : World) (ht : Tab w) (hs : All2 (Sps lo w) [v0, v1, v2, v3] a) (hu : All2 (Sps lo' w) [u0, u1, u2, u3] b) (ha : bvalid a = true) (hb : bvalid b = true) :
    Calls Tryd.prog 69 #[.agg #[v0, v1, v2, v3], .agg #[u0, u1, u2, u3]] w fun e w' => e = .returned (.bool (bwithin a b)) ∧ Below w.heap.size w w' := by
  obtain ⟨em, hem⟩ : ∃ em, bempty a = em := ⟨_, rfl⟩
  have HE := Lib.hid hem
  have HS := Lib.hid hs
  have HU := Lib.hid hu
  have HA := Lib.hid ha
  have HB := Lib.hid hb
  clear hs hu ha hb
  obtain ⟨W, hW⟩ : ∃ W, ((w.alloc (.cells #[v0, v1, v2, v3] 89)).alloc (.cells #[u0, u1, u2, u3] 89)) = W := ⟨_, rfl⟩
  have hal : Below w.heap.size w W := by rw [← hW]; (repeat' (first | with_reducible exact Below.refl _ _ | with_reducible assumption | with_reducible refine Below.setCell ?_ ?_ _ | with_reducible refine Below.alloc ?_ ?_ _ | with_reducible refine Below.drew ?_ | with_reducible refine belDrewN ?_ _ | with_reducible refine Below.trans ?_ (Below.mono (by assumption) ?_) | omega | (simp; omega) | (simp; done)))
  have HA2 := alloc2_cf w #[v0, v1, v2, v3] #[u0, u1, u2, u3] 89 89
  rw [hW] at HA2
  have hq : ∀ (k : Nat) v, [v0, v1, v2, v3][k]? = some v → W.cell? ⟨w.heap.size, k, none⟩ = some v := fun k v hk => by rw [(HA2.1 k).1]; simpa using hk
  have HU2 := Lib.hid (show ∀ (k : Nat) v, [u0, u1, u2, u3][k]? = some v → W.cell? ⟨w.heap.size + 1, k, none⟩ = some v from fun k v hk => by rw [(HA2.2 k).1]; simpa using hk)
  have q0 := hq 0 _ rfl
  have q1 := hq 1 _ rfl
  have q2 := hq 2 _ rfl
  have q3 := hq 3 _ rfl
  have HQ := Lib.hid hq
  have qs : W.heap.size = w.heap.size + 1 + 1 := by rw [← hW]; simp
  clear HA2 hq
  go_enter Tryd.func69, Tryd.ntmps69
  go_wp2_with fail
  refine (empty_b (HS.out.mono (fun _ _ g => g.below hal)) hem).mono ?_
  rintro e w1 ⟨rfl, hb1⟩
  have hw1 := hal.trans (hb1.mono hal.size)
  have hz1 := hb1.size
  clear q0 q1 q2 q3 hem
  cases em
  · go_wp2_with fail
    go_loopw [5, 8] (fun _ i wr => ∃ k : Nat, k ≤ 4 ∧ i = .int .i64 k ∧ Hid (∀ j, j < k → (bout a b j).isEmpty = true) ∧ Below W.heap.size W wr) (fun _ i _ => 4 - (intOf i).toNat)
    case atStart => exact ⟨0, by omega, rfl, Lib.hid (fun j hj => by omega), hb1⟩
    case round =>
      obtain ⟨k, hk4, rfl, HG, hbr⟩ := hrel
      have hzr := hbr.size
      have hwr := hal.trans (hbr.mono hal.size)
      by_cases hlt : k < 4
      · have i1 : (k : Int) < 4 := by omega
        have i2 : (0 : Int) ≤ (k : Int) := by omega
        obtain ⟨x, hx, vx⟩ := bvalid_get HA.out hlt
        obtain ⟨y, hy, vy⟩ := bvalid_get HB.out hlt
        obtain ⟨sv, hsv, hss⟩ := HS.out.left hx
        obtain ⟨tv, htv, htt⟩ := HU.out.left hy
        have d0 : wr.cell? ⟨w.heap.size, k, none⟩ = some sv := (hbr.cell (p := ⟨w.heap.size, k, none⟩) (by simp only; omega)).trans (HQ.out k sv hsv)
        have d1 : wr.cell? ⟨w.heap.size + 1, k, none⟩ = some tv := (hbr.cell (p := ⟨w.heap.size + 1, k, none⟩) (by simp only; omega)).trans (HU2.out k tv htv)
        have HSV := Lib.hid (hss.below hwr)
        have HTV := Lib.hid (htt.below hwr)
        have GX := Lib.hid (svalid_good vx)
        have GY := Lib.hid (svalid_good vy)
        obtain ⟨L, hL⟩ : ∃ L, bout a b k = L := ⟨_, rfl⟩
        have HLE := Lib.hid (show smeet x (sother (top k) 0 y) = L by rw [← hL]; unfold bout; rw [getD_get hx, getD_get hy])
        have HLI := Lib.hid (bout_isE hL)
        obtain ⟨t0, t1⟩ := top_le hlt
        obtain ⟨r, hr⟩ : ∃ r, decide (0 < L.length) = r := ⟨_, rfl⟩
        have HRR := Lib.hid hr
        clear hx hy vx vy hss htt hsv htv hL hr
        go_wp2_with fail
        (refine wp_region_bel (W := wr) [BIs (.int .i64 (k : Int)), BIs (.pointer (some ⟨w.heap.size, k, none⟩)), BIs (sv), BIs (.int .i64 (k : Int)), BIs (.pointer (some ⟨w.heap.size + 1, k, none⟩)), BIs (tv), BIs (.int .i64 (k : Int)), (BIs (.int .i64 (top k))), (fun w v => ∃ q c, v = .slice q L.length c ∧ OwnSp wr.heap.size w (.slice q L.length c) L), BIs (.int .i64 (L.length : Int)), BIs (.bool r)] (by kernel_rfl) (fun u => by simp only [frU, Act.put, List.setIfInBounds_toArray, List.set_cons_succ, List.set_cons_zero, Nat.zero_add, Nat.reduceAdd]; exact rfl) (by kernel_rfl) ⟨bst_is _, bst_is _, bst_is _, bst_is _, bst_is _, bst_is _, bst_is _, (bst_is _), (fun _ _ _ hb ⟨q, c, h1, h2⟩ => ⟨q, c, h1, OwnSl.kept h2 hb⟩), bst_is _, bst_is _, trivial⟩ ?_ ?_; exact ⟨stB rfl (fun u w3 hC hd Q K hK => by (go_step; exact hK _ _ rfl (Below.refl _ _) rfl)), stB rfl (fun u w3 hC hd Q K hK => by (have hu := bis (w := w3) (hd 0 rfl); rw [hu] at hK ⊢; clear hu; go_step; exact hK _ _ rfl (Below.refl _ _) rfl)), stB rfl (fun u w3 hC hd Q K hK => by (have hu := bis (w := w3) (hd 1 rfl); rw [hu] at hK ⊢; clear hu; have z0 := (hC.cell (p := ⟨w.heap.size, k, none⟩) (by simp only; omega)).trans d0; go_step; exact hK _ _ rfl (Below.refl _ _) rfl)), stB rfl (fun u w3 hC hd Q K hK => by (go_step; exact hK _ _ rfl (Below.refl _ _) rfl)), stB rfl (fun u w3 hC hd Q K hK => by (have hu := bis (w := w3) (hd 3 rfl); rw [hu] at hK ⊢; clear hu; go_step; exact hK _ _ rfl (Below.refl _ _) rfl)), stB rfl (fun u w3 hC hd Q K hK => by (have hu := bis (w := w3) (hd 4 rfl); rw [hu] at hK ⊢; clear hu; have z0 := (hC.cell (p := ⟨w.heap.size + 1, k, none⟩) (by simp only; omega)).trans d1; go_step; exact hK _ _ rfl (Below.refl _ _) rfl)), stB rfl (fun u w3 hC hd Q K hK => by (go_step; exact hK _ _ rfl (Below.refl _ _) rfl)), stB rfl (fun u w3 hC hd Q K hK => by (have hu := bis (w := w3) (hd 6 rfl); rw [hu] at hK ⊢; clear hu; go_step; refine (FieldTop_any k hlt _ (ht.below (hwr.trans (hC.mono hwr.size)))).mono ?_; rintro e w4 ⟨rfl, rfl⟩; exact hK _ _ rfl (Below.refl _ _) rfl)), stB rfl (fun u w3 hC hd Q K hK => by (have hu := bis (w := w3) (hd 2 rfl); rw [hu] at hK ⊢; clear hu; have hu := bis (w := w3) (hd 5 rfl); rw [hu] at hK ⊢; clear hu; have hu := bis (w := w3) (hd 7 rfl); rw [hu] at hK ⊢; clear hu; go_step; refine (sweepLess_any x y _ _ _ _ (HSV.out.below hC) (HTV.out.below hC) GX.out GY.out t0 t1).mono ?_; rintro e w4 ⟨z4, rfl, zs, hsw, ho4, hb4⟩; exact hK _ _ rfl hb4 (by have hzs := (hsw.less GX.out GY.out).trans HLE.out; rw [hzs] at ho4; obtain ⟨q, c, hqc, -, -⟩ := (OwnSp.sps ho4).form; exact ⟨q, c, hqc, hqc ▸ OwnSl.mono ho4 hC.size⟩))), stB rfl (fun u w3 hC hd Q K hK => by (obtain ⟨q, c, hu, ho⟩ := hd 8 rfl; rw [hu] at hK ⊢; clear hu; go_step; exact hK _ _ rfl (Below.refl _ _) rfl)), stB rfl (fun u w3 hC hd Q K hK => by (have hu := bis (w := w3) (hd 9 rfl); rw [hu] at hK ⊢; clear hu; have hz9 : decide (0 < L.length) = r := HRR.out; go_step; exact hK _ _ rfl (Below.refl _ _) rfl)), trivial⟩); intro u w9 hb_w9 hF; rw [bis (w := w9) (hF 0 (by decide))]; rw [bis (w := w9) (hF 1 (by decide))]; rw [bis (w := w9) (hF 2 (by decide))]; rw [bis (w := w9) (hF 3 (by decide))]; rw [bis (w := w9) (hF 4 (by decide))]; rw [bis (w := w9) (hF 5 (by decide))]; rw [bis (w := w9) (hF 6 (by decide))]; generalize u 7 = vx7 at *; generalize u 8 = vx8 at *; rw [bis (w := w9) (hF 9 (by decide))]; rw [bis (w := w9) (hF 10 (by decide))]; clear hF
        have hb9 : Below W.heap.size W w9 := hbr.trans (hb_w9.mono hzr)
        have hw9 := hal.trans (hb9.mono hal.size)
        clear hb_w9 d0 d1
        cases r
        · have HG2 := Lib.hid (show ∀ j, j < k + 1 → (bout a b j).isEmpty = true from fun j hj => by
            by_cases e : j = k
            · subst e; rw [HLI.out]; have := HRR.out; simp at this; exact decide_eq_true (by simpa using this)
            · exact HG.out j (by omega))
          go_wp2
          go_roundw
          case rel => exact ⟨k + 1, by omega, by go_num, HG2, hb9⟩
          case measure => simp [intOf]; omega
        · have HN := Lib.hid (show bwithin a b = false from bwithin_no hlt HE.out (by rw [HLI.out]; have := of_decide_eq_true HRR.out; exact decide_eq_false (by omega)))
          go_wp2
          go_ret
          exact ⟨ret_bool HN.out.symm, hw9⟩
      · have hkn : k = 4 := by omega
        have HY := Lib.hid (bwithin_yes (a := a) (b := b) (fun j hj => HG.out j (by omega)))
        subst hkn
        go_wp2
        go_ret
        exact ⟨ret_bool HY.out.symm, hwr⟩
  · have HY := Lib.hid (show bwithin a b = true by unfold bwithin; rw [HE.out]; rfl)
    go_wp2
    go_ret
    exact ⟨ret_bool HY.out.symm, hw1⟩
theorem within_b {lo lo' : Nat} {a b : Bx} {v0 v1 v2 v3 u0 u1 u2 u3 : Value} {w : World} {r : Bool} (ht : Tab w) (hs : All2 (Sps lo w) [v0, v1, v2, v3] a) (hu : All2 (Sps lo' w) [u0, u1, u2, u3] b) (ha : bvalid a = true) (hb : bvalid b = true) (h : bwithin a b = r) :
    Calls Tryd.prog 69 #[.agg #[v0, v1, v2, v3], .agg #[u0, u1, u2, u3]] w fun e w' => e = .returned (.bool r) ∧ Below w.heap.size w w' := by
  subst h
  exact within_any a b v0 v1 v2 v3 u0 u1 u2 u3 w ht hs hu ha hb
theorem sp_eq (a1 a2 b1 b2 : Int) (w : World) : (Op.equalIn 10000 70 (.agg #[.int .i64 a1, .int .i64 a2]) (.agg #[.int .i64 b1, .int .i64 b2])).run Tryd.prog w = .ok (decide (Sp.mk a1 a2 = Sp.mk b1 b2)) w := by
  have u3 := Tryd.underlying3
  have a3 := Tryd.isAgg3
  have z3 := Tryd.sizeOf3
  rw [show (10000 : Nat) = 9999 + 1 from rfl, run_equalIn_agg w 9999 _ _ _ spStruct spHeld]
  simp only [Program.fieldsOf, Tryd.underlying70]
  by_cases h1 : a1 = b1
  · subst h1
    by_cases h2 : a2 = b2
    · subst h2; go_simp
    · go_simp
  · go_simp
set_option maxHeartbeats 2000000 in
theorem slicesEq_any {lo lo' : Nat} (xs ys : List Sp) (v u : Value) (w : World) (hs : Sps lo w v xs) (hu : Sps lo' w u ys) :
    Calls Tryd.prog 92 #[v, u] w fun e w' => e = .returned (.bool (decide (xs = ys))) ∧ Below w.heap.size w w' := by
  obtain ⟨a, cap, rfl, hlc, hcm⟩ := hs.form
  obtain ⟨a', cap', rfl, hlc', hcm'⟩ := hu.form
  unfold maxLen at hcm hcm'
  have hp := spGuard
  by_cases hne : xs.length = ys.length
  · have hm : ys.length = xs.length := hne.symm
    rw [hm] at hu hlc' ⊢
    generalize hn : xs.length = n at *
    have HN := Lib.hid hn
    have HM := Lib.hid hm
    clear hn hm hne
    go_enter Tryd.func92, Tryd.ntmps92
    go_wp2_with fail
    go_loopw [5, 13] (fun _ i wr => ∃ k : Nat, k ≤ n ∧ i = .int .i64 k ∧ Hid (xs.take k = ys.take k) ∧ Below w.heap.size w wr) (fun _ i _ => n - (intOf i).toNat)
    case atStart => exact ⟨0, by omega, rfl, Lib.hid rfl, Below.refl _ _⟩
    case round =>
      obtain ⟨k, hk, rfl, HQ, hbr⟩ := hrel
      have hs2 := hs.below hbr
      have hu2 := hu.below hbr
      have hzr := hbr.size
      by_cases hlt : k < n
      · obtain ⟨b, o, f1, f2, rfl, hbl, hx, c0, c1⟩ := hs2.at (show k < xs.length by rw [HN.out]; exact hlt)
        obtain ⟨b', o', g1, g2, rfl, hbl', hy, d0, d1⟩ := hu2.at (show k < ys.length by rw [HM.out]; exact hlt)
        have i1 : (k : Int) < (n : Int) := by omega
        have i2 : (0 : Int) ≤ (k : Int) := by omega
        obtain ⟨r, hr⟩ : ∃ r, decide (Sp.mk f1 f2 = Sp.mk g1 g2) = r := ⟨_, rfl⟩
        have hq : ∀ w : World, (Op.equalIn 10000 70 (.agg #[.int .i64 f1, .int .i64 f2]) (.agg #[.int .i64 g1, .int .i64 g2])).run Tryd.prog w = .ok r w := fun w => by rw [sp_eq, hr]
        have HX := Lib.hid hx
        have HY := Lib.hid hy
        have HR := Lib.hid hr
        clear hx hy hr
        cases r
        · have HE := Lib.hid (show decide (xs = ys) = false from decide_eq_false (fun h => of_decide_eq_false HR.out (by have h1 := HX.out; have h2 := HY.out; rw [h, h2] at h1; exact (Option.some.inj h1).symm)))
          go_wp2_with fail
          go_quiet (fail)
          go_wp2
          go_ret
          exact ⟨ret_bool HE.out.symm, by (repeat' (first | with_reducible exact Below.refl _ _ | with_reducible assumption | with_reducible refine Below.setCell ?_ ?_ _ | with_reducible refine Below.alloc ?_ ?_ _ | with_reducible refine Below.drew ?_ | with_reducible refine belDrewN ?_ _ | with_reducible refine Below.trans ?_ (Below.mono (by assumption) ?_) | omega | (simp; omega) | (simp; done)))⟩
        · have HE := Lib.hid (take_eq_succ HQ.out HX.out HY.out (of_decide_eq_true HR.out))
          go_wp2_with fail
          go_quiet (fail)
          go_wp2
          go_roundw
          case rel => exact ⟨k + 1, by omega, by go_num, HE, by (repeat' (first | with_reducible exact Below.refl _ _ | with_reducible assumption | with_reducible refine Below.setCell ?_ ?_ _ | with_reducible refine Below.alloc ?_ ?_ _ | with_reducible refine Below.drew ?_ | with_reducible refine belDrewN ?_ _ | with_reducible refine Below.trans ?_ (Below.mono (by assumption) ?_) | omega | (simp; omega) | (simp; done)))⟩
          case measure => simp [intOf]; omega
      · have HE := Lib.hid (show decide (xs = ys) = true from decide_eq_true (by
          have hkn : k = n := by omega
          have := HQ.out
          rw [hkn] at this
          rwa [List.take_of_length_le (by rw [HN.out]; exact Nat.le_refl _), List.take_of_length_le (by rw [HM.out]; exact Nat.le_refl _)] at this))
        go_wp2
        go_ret
        exact ⟨ret_bool HE.out.symm, hbr⟩
  · have HN := Lib.hid (decide_eq_false (fun h : xs = ys => hne (by rw [h])))
    have hb : ((xs.length : Int) == (ys.length : Int)) = false := by simpa using (by omega : (xs.length : Int) ≠ ys.length)
    have hb2 : ((xs.length : Int) != (ys.length : Int)) = true := by simpa using (by omega : (xs.length : Int) ≠ ys.length)
    generalize xs.length = n at *
    generalize ys.length = m at *
    clear hne hs hu
    go_enter Tryd.func92, Tryd.ntmps92
    go_wp2
    go_ret
    exact ⟨ret_bool HN.out.symm, by (repeat' (first | with_reducible exact Below.refl _ _ | with_reducible assumption | with_reducible refine Below.setCell ?_ ?_ _ | with_reducible refine Below.alloc ?_ ?_ _ | with_reducible refine Below.drew ?_ | with_reducible refine belDrewN ?_ _ | with_reducible refine Below.trans ?_ (Below.mono (by assumption) ?_) | omega | (simp; omega) | (simp; done)))⟩
theorem slicesEq_b {lo lo' : Nat} {xs ys : List Sp} {v u : Value} {w : World} {r : Bool} (hs : Sps lo w v xs) (hu : Sps lo' w u ys) (h : decide (xs = ys) = r) :
    Calls Tryd.prog 92 #[v, u] w fun e w' => e = .returned (.bool r) ∧ Below w.heap.size w w' := by
  subst h
  exact slicesEq_any xs ys v u w hs hu
set_option maxHeartbeats 2000000 in
theorem l15Same_any {lo lo' : Nat} (xs ys : List Sp) (v u : Value) (w : World) (hs : Sps lo w v xs) (hu : Sps lo' w u ys) :
    Calls Tryd.prog 61 #[v, u] w fun e w' => e = .returned (.bool (decide (xs = ys))) ∧ Below w.heap.size w w' := by
  obtain ⟨a, cap, rfl, hlc, hcm⟩ := hs.form
  obtain ⟨a', cap', rfl, hlc', hcm'⟩ := hu.form
  unfold maxLen at hcm hcm'
  have hp := spGuard
  by_cases hne : xs.length = ys.length
  · have hm : ys.length = xs.length := hne.symm
    rw [hm] at hu hlc' ⊢
    generalize hn : xs.length = n at *
    have HN := Lib.hid hn
    have HM := Lib.hid hm
    clear hn hm hne
    go_enter Tryd.func61, Tryd.ntmps61
    go_wp2_with fail
    go_loopw [5] (fun i wr => ∃ k : Nat, k ≤ n ∧ i = .int .i64 k ∧ Hid (xs.take k = ys.take k) ∧ Below w.heap.size w wr) (fun i _ => n - (intOf i).toNat)
    case atStart => exact ⟨0, by omega, rfl, Lib.hid rfl, Below.refl _ _⟩
    case round =>
      obtain ⟨k, hk, rfl, HQ, hbr⟩ := hrel
      have hs2 := hs.below hbr
      have hu2 := hu.below hbr
      have hzr := hbr.size
      by_cases hlt : k < n
      · obtain ⟨b, o, f1, f2, rfl, hbl, hx, c0, c1⟩ := hs2.at (show k < xs.length by rw [HN.out]; exact hlt)
        obtain ⟨b', o', g1, g2, rfl, hbl', hy, d0, d1⟩ := hu2.at (show k < ys.length by rw [HM.out]; exact hlt)
        have i1 : (k : Int) < (n : Int) := by omega
        have i2 : (0 : Int) ≤ (k : Int) := by omega
        obtain ⟨r, hr⟩ : ∃ r, decide (Sp.mk f1 f2 = Sp.mk g1 g2) = r := ⟨_, rfl⟩
        have hq : ∀ w : World, (Op.equalIn 10000 70 (.agg #[.int .i64 f1, .int .i64 f2]) (.agg #[.int .i64 g1, .int .i64 g2])).run Tryd.prog w = .ok r w := fun w => by rw [sp_eq, hr]
        have HX := Lib.hid hx
        have HY := Lib.hid hy
        have HR := Lib.hid hr
        clear hx hy hr
        cases r
        · have HE := Lib.hid (show decide (xs = ys) = false from decide_eq_false (fun h => of_decide_eq_false HR.out (by have h1 := HX.out; have h2 := HY.out; rw [h, h2] at h1; exact (Option.some.inj h1).symm)))
          go_wp2_with fail
          go_quiet (fail)
          go_wp2
          go_ret
          exact ⟨ret_bool HE.out.symm, by (repeat' (first | with_reducible exact Below.refl _ _ | with_reducible assumption | with_reducible refine Below.setCell ?_ ?_ _ | with_reducible refine Below.alloc ?_ ?_ _ | with_reducible refine Below.drew ?_ | with_reducible refine belDrewN ?_ _ | with_reducible refine Below.trans ?_ (Below.mono (by assumption) ?_) | omega | (simp; omega) | (simp; done)))⟩
        · have HE := Lib.hid (take_eq_succ HQ.out HX.out HY.out (of_decide_eq_true HR.out))
          go_wp2_with fail
          go_quiet (fail)
          go_wp2
          go_roundw
          case rel => exact ⟨k + 1, by omega, by go_num, HE, by (repeat' (first | with_reducible exact Below.refl _ _ | with_reducible assumption | with_reducible refine Below.setCell ?_ ?_ _ | with_reducible refine Below.alloc ?_ ?_ _ | with_reducible refine Below.drew ?_ | with_reducible refine belDrewN ?_ _ | with_reducible refine Below.trans ?_ (Below.mono (by assumption) ?_) | omega | (simp; omega) | (simp; done)))⟩
          case measure => simp [intOf]; omega
      · have HE := Lib.hid (show decide (xs = ys) = true from decide_eq_true (by
          have hkn : k = n := by omega
          have := HQ.out
          rw [hkn] at this
          rwa [List.take_of_length_le (by rw [HN.out]; exact Nat.le_refl _), List.take_of_length_le (by rw [HM.out]; exact Nat.le_refl _)] at this))
        go_wp2
        go_ret
        exact ⟨ret_bool HE.out.symm, hbr⟩
  · have HN := Lib.hid (decide_eq_false (fun h : xs = ys => hne (by rw [h])))
    have hb : ((xs.length : Int) == (ys.length : Int)) = false := by simpa using (by omega : (xs.length : Int) ≠ ys.length)
    have hb2 : ((xs.length : Int) != (ys.length : Int)) = true := by simpa using (by omega : (xs.length : Int) ≠ ys.length)
    generalize xs.length = n at *
    generalize ys.length = m at *
    clear hne hs hu
    go_enter Tryd.func61, Tryd.ntmps61
    go_wp2
    go_ret
    exact ⟨ret_bool HN.out.symm, by (repeat' (first | with_reducible exact Below.refl _ _ | with_reducible assumption | with_reducible refine Below.setCell ?_ ?_ _ | with_reducible refine Below.alloc ?_ ?_ _ | with_reducible refine Below.drew ?_ | with_reducible refine belDrewN ?_ _ | with_reducible refine Below.trans ?_ (Below.mono (by assumption) ?_) | omega | (simp; omega) | (simp; done)))⟩
theorem l15Same_b {lo lo' : Nat} {xs ys : List Sp} {v u : Value} {w : World} {r : Bool} (hs : Sps lo w v xs) (hu : Sps lo' w u ys) (h : decide (xs = ys) = r) :
    Calls Tryd.prog 61 #[v, u] w fun e w' => e = .returned (.bool r) ∧ Below w.heap.size w w' := by
  subst h
  exact l15Same_any xs ys v u w hs hu
set_option maxHeartbeats 1000000 in
theorem unionSpans_r {lo lo' : Nat} {xs ys L : List Sp} {u v : Value} {t : Int} {w : World} {r : Bool} (hL : suni xs ys = L) (hr : decide (L.length ≤ 40) = r) (hs : Sps lo w u xs) (ht : Sps lo' w v ys) (gx : sgood t 0 xs = true) (gy : sgood t 0 ys = true) (t0 : 0 ≤ t) (t1 : t ≤ 65535) :
    Calls Tryd.prog 93 #[u, v, .int .i64 t] w fun e w' => ∃ z, e = .returned (.tuple #[z, .bool r]) ∧ OwnSp w.heap.size w' z (slim L) ∧ Below w.heap.size w w' := by
  go_enter Tryd.func93, Tryd.ntmps93
  go_wp2_with fail
  refine (sweepUni_any xs ys u v t w hs ht gx gy t0 t1).mono ?_
  rintro e w1 ⟨z, rfl, zs, hsw, ho, hb⟩
  obtain rfl := (hsw.uni gx gy).trans hL
  go_wp2_with fail
  refine (limit_any _ _ _ ho).mono ?_
  rintro e _ ⟨⟨z2, rfl, ho2⟩, rfl⟩
  rw [hr]
  have HO := Lib.hid ho2
  clear ho ho2 hr hsw hL
  go_wp2_with fail
  go_ret2
  exact ⟨_, rfl, HO.out, hb⟩
theorem bdiff_len (a b : Bx) : ∀ k, (bdiff a b k).length ≤ k
  | 0 => Nat.le_refl _
  | k + 1 => by
    have := bdiff_len a b k
    rw [bdiff_succ, List.length_append]
    split <;> simp <;> omega
theorem mergeB_yes {a b : Bx} {n : Nat} (h1 : bwithin a b = false) (h2 : bwithin b a = false) (hd : bdiff a b 4 = [n]) : mergeB a b = if (mergeU a b n).length ≤ 40 then some (a.set n (mergeU a b n)) else none := by
  unfold mergeB
  rw [h1, h2, hd]
  rfl
theorem mergeB_no {a b : Bx} (h1 : bwithin a b = false) (h2 : bwithin b a = false) (hd : (bdiff a b 4).length ≠ 1) : mergeB a b = none := by
  unfold mergeB
  rw [h1, h2]
  simp only [Bool.false_eq_true, if_false]
  split
  · rename_i n h; rw [h] at hd; simp at hd
  · rfl
theorem OwnSp.set4 {base : Nat} {w : World} {v : Value} {xs : List Sp} {ob : Obj} {p : Nat} {a b c d : Value} (h : OwnSp base w v xs) (hp : p < base) : OwnSp base (((((w.setCell ⟨p, 0, none⟩ a).setCell ⟨p, 1, none⟩ b).setCell ⟨p, 2, none⟩ c).setCell ⟨p, 3, none⟩ d).alloc ob) v xs :=
  OwnSl.keepB h (fun g _ h1 h2 => by
    have hne : g ≠ p := by omega
    refine (((Below.refl w.heap.size ((((w.setCell ⟨p, 0, none⟩ a).setCell ⟨p, 1, none⟩ b).setCell ⟨p, 2, none⟩ c).setCell ⟨p, 3, none⟩ d)).alloc (by simp) ob).block g h2).trans ?_
    rw [Below.heap_setCell _ _ _ _ (by simpa using hne), Below.heap_setCell _ _ _ _ (by simpa using hne), Below.heap_setCell _ _ _ _ (by simpa using hne), Below.heap_setCell _ _ _ _ (by simpa using hne)])
theorem mergeU_get {a b : Bx} {n : Nat} {x y : List Sp} (hx : a[n]? = some x) (hy : b[n]? = some y) : suni x y = mergeU a b n := by unfold mergeU; rw [getD_get hx, getD_get hy]
theorem bdiff_step {a b : Bx} {n : Nat} {x y : List Sp} {r : Bool} (hx : a[n]? = some x) (hy : b[n]? = some y) (h : decide (x = y) = r) : bdiff a b (n + 1) = bdiff a b n ++ (if r then [] else [n]) := by
  rw [bdiff_succ, getD_get hx, getD_get hy]
  by_cases e : x = y
  · rw [if_pos e]; subst e; simp at h; subst h; rfl
  · rw [if_neg e]; rw [decide_eq_false e] at h; subst h; rfl
set_option maxHeartbeats 8000000 in
set_option maxRecDepth 100000 in
theorem mergeSides_any {lo lo' : Nat} (a b : Bx) (v0 v1 v2 v3 u0 u1 u2 u3 : Value) (w : World) (ht : Tab w) (hs : All2 (Sps lo w) [v0, v1, v2, v3] a) (hu : All2 (Sps lo' w) [u0, u1, u2, u3] b) (ha : bvalid a = true) (hb : bvalid b = true) :
    Calls Tryd.prog 56 #[.agg #[v0, v1, v2, v3], .agg #[u0, u1, u2, u3]] w fun e w' => ∃ a0 n0 p0 a1 n1 p1 a2 n2 p2 a3 n3 p3, e = .returned (.tuple #[.agg #[.slice a0 n0 p0, .slice a1 n1 p1, .slice a2 n2 p2, .slice a3 n3 p3], .bool (mergeB a b).isSome]) ∧ (∀ c, mergeB a b = some c → All2 (Sps 0 w') [.slice a0 n0 p0, .slice a1 n1 p1, .slice a2 n2 p2, .slice a3 n3 p3] c) ∧ Below w.heap.size w w' := by
  obtain ⟨A0, N0, P0, A1, N1, P1, A2, N2, P2, A3, N3, P3, rfl, rfl, rfl, rfl⟩ := sl4_form hs
  obtain ⟨B0, M0, Q0, B1, M1, Q1, B2, M2, Q2, B3, M3, Q3, rfl, rfl, rfl, rfl⟩ := sl4_form hu
  have HS := Lib.hid hs
  have HU := Lib.hid hu
  have HA := Lib.hid ha
  have HB := Lib.hid hb
  clear hs hu ha hb
  obtain ⟨W, hW⟩ : ∃ W, (((w.alloc (.cells #[Value.slice A0 N0 P0, .slice A1 N1 P1, .slice A2 N2 P2, .slice A3 N3 P3] 89)).alloc (.cells #[Value.slice B0 M0 Q0, .slice B1 M1 Q1, .slice B2 M2 Q2, .slice B3 M3 Q3] 89)).alloc (.cells #[.slice none 0 0, .slice none 0 0, .slice none 0 0, .slice none 0 0] 89)) = W := ⟨_, rfl⟩
  have hal : Below w.heap.size w W := by rw [← hW]; (repeat' (first | with_reducible exact Below.refl _ _ | with_reducible assumption | with_reducible refine Below.setCell ?_ ?_ _ | with_reducible refine Below.alloc ?_ ?_ _ | with_reducible refine Below.drew ?_ | with_reducible refine belDrewN ?_ _ | with_reducible refine Below.trans ?_ (Below.mono (by assumption) ?_) | omega | (simp; omega) | (simp; done)))
  have HA3 := alloc3_cells w #[Value.slice A0 N0 P0, .slice A1 N1 P1, .slice A2 N2 P2, .slice A3 N3 P3] #[Value.slice B0 M0 Q0, .slice B1 M1 Q1, .slice B2 M2 Q2, .slice B3 M3 Q3] #[.slice none 0 0, .slice none 0 0, .slice none 0 0, .slice none 0 0] 89 89 89
  rw [hW] at HA3
  have HQ := Lib.hid (show ∀ (k : Nat) v, [Value.slice A0 N0 P0, .slice A1 N1 P1, .slice A2 N2 P2, .slice A3 N3 P3][k]? = some v → W.cell? ⟨w.heap.size, k, none⟩ = some v from fun k v hk => by rw [HA3.1 k]; simpa using hk)
  have HP := Lib.hid (show ∀ (k : Nat) v, [Value.slice B0 M0 Q0, .slice B1 M1 Q1, .slice B2 M2 Q2, .slice B3 M3 Q3][k]? = some v → W.cell? ⟨w.heap.size + 1, k, none⟩ = some v from fun k v hk => by rw [(HA3.2.1 k).1]; simpa using hk)
  have HR3 := Lib.hid (show ∀ (k : Nat) v, [Value.slice none 0 0, .slice none 0 0, .slice none 0 0, .slice none 0 0][k]? = some v → W.cell? ⟨w.heap.size + 1 + 1, k, none⟩ = some v from fun k v hk => by rw [(HA3.2.2 k).1]; simpa using hk)
  have HN3 := Lib.hid (fun k => (HA3.2.2 k).2)
  have qs : W.heap.size = w.heap.size + 1 + 1 + 1 := by rw [← hW]; simp
  have hrf : Below W.heap.size W W := Below.refl _ _
  have q0 := (hrf.cell (p := ⟨w.heap.size, 0, none⟩) (by simp only; omega)).trans (HQ.out 0 _ rfl)
  have q1 := (hrf.cell (p := ⟨w.heap.size, 1, none⟩) (by simp only; omega)).trans (HQ.out 1 _ rfl)
  have q2 := (hrf.cell (p := ⟨w.heap.size, 2, none⟩) (by simp only; omega)).trans (HQ.out 2 _ rfl)
  have q3 := (hrf.cell (p := ⟨w.heap.size, 3, none⟩) (by simp only; omega)).trans (HQ.out 3 _ rfl)
  have p0 := (hrf.cell (p := ⟨w.heap.size + 1, 0, none⟩) (by simp only; omega)).trans (HP.out 0 _ rfl)
  have p1 := (hrf.cell (p := ⟨w.heap.size + 1, 1, none⟩) (by simp only; omega)).trans (HP.out 1 _ rfl)
  have p2 := (hrf.cell (p := ⟨w.heap.size + 1, 2, none⟩) (by simp only; omega)).trans (HP.out 2 _ rfl)
  have p3 := (hrf.cell (p := ⟨w.heap.size + 1, 3, none⟩) (by simp only; omega)).trans (HP.out 3 _ rfl)
  have r0 := (hrf.cell (p := ⟨w.heap.size + 1 + 1, 0, none⟩) (by simp only; omega)).trans (HR3.out 0 _ rfl)
  have r1 := (hrf.cell (p := ⟨w.heap.size + 1 + 1, 1, none⟩) (by simp only; omega)).trans (HR3.out 1 _ rfl)
  have r2 := (hrf.cell (p := ⟨w.heap.size + 1 + 1, 2, none⟩) (by simp only; omega)).trans (HR3.out 2 _ rfl)
  have r3 := (hrf.cell (p := ⟨w.heap.size + 1 + 1, 3, none⟩) (by simp only; omega)).trans (HR3.out 3 _ rfl)
  have n0 := fun j => (hrf.frozen (p := ⟨w.heap.size + 1 + 1, j, none⟩) (by simp only; omega)).trans (HN3.out j)
  obtain ⟨r1w, hr1⟩ : ∃ r, bwithin a b = r := ⟨_, rfl⟩
  have HW1 := Lib.hid hr1
  clear HA3
  go_enter Tryd.func56, Tryd.ntmps56
  go_wp2_with fail
  refine (within_b (ht.below hal) (HS.out.mono (fun _ _ g => g.below hal)) (HU.out.mono (fun _ _ g => g.below hal)) HA.out HB.out hr1).mono ?_
  rintro e w1 ⟨rfl, hb1⟩
  have hz1 := hb1.size
  have hw1 := hal.trans (hb1.mono hal.size)
  clear q0 q1 q2 q3 p0 p1 p2 p3 hr1 hrf hW
  clear r0 r1 r2 r3 n0
  have q0 := (hb1.cell (p := ⟨w.heap.size, 0, none⟩) (by simp only; omega)).trans (HQ.out 0 _ rfl)
  have q1 := (hb1.cell (p := ⟨w.heap.size, 1, none⟩) (by simp only; omega)).trans (HQ.out 1 _ rfl)
  have q2 := (hb1.cell (p := ⟨w.heap.size, 2, none⟩) (by simp only; omega)).trans (HQ.out 2 _ rfl)
  have q3 := (hb1.cell (p := ⟨w.heap.size, 3, none⟩) (by simp only; omega)).trans (HQ.out 3 _ rfl)
  have p0 := (hb1.cell (p := ⟨w.heap.size + 1, 0, none⟩) (by simp only; omega)).trans (HP.out 0 _ rfl)
  have p1 := (hb1.cell (p := ⟨w.heap.size + 1, 1, none⟩) (by simp only; omega)).trans (HP.out 1 _ rfl)
  have p2 := (hb1.cell (p := ⟨w.heap.size + 1, 2, none⟩) (by simp only; omega)).trans (HP.out 2 _ rfl)
  have p3 := (hb1.cell (p := ⟨w.heap.size + 1, 3, none⟩) (by simp only; omega)).trans (HP.out 3 _ rfl)
  have r0 := (hb1.cell (p := ⟨w.heap.size + 1 + 1, 0, none⟩) (by simp only; omega)).trans (HR3.out 0 _ rfl)
  have r1 := (hb1.cell (p := ⟨w.heap.size + 1 + 1, 1, none⟩) (by simp only; omega)).trans (HR3.out 1 _ rfl)
  have r2 := (hb1.cell (p := ⟨w.heap.size + 1 + 1, 2, none⟩) (by simp only; omega)).trans (HR3.out 2 _ rfl)
  have r3 := (hb1.cell (p := ⟨w.heap.size + 1 + 1, 3, none⟩) (by simp only; omega)).trans (HR3.out 3 _ rfl)
  have n0 := fun j => (hb1.frozen (p := ⟨w.heap.size + 1 + 1, j, none⟩) (by simp only; omega)).trans (HN3.out j)
  cases r1w
  · obtain ⟨r2w, hr2⟩ : ∃ r, bwithin b a = r := ⟨_, rfl⟩
    have HW2 := Lib.hid hr2
    go_wp2_with fail
    refine (within_b (ht.below hw1) (HU.out.mono (fun _ _ g => g.below hw1)) (HS.out.mono (fun _ _ g => g.below hw1)) HB.out HA.out hr2).mono ?_
    rintro e w2 ⟨rfl, hb2'⟩
    have hb2 := hb1.trans (hb2'.mono hz1)
    have hz2 := hb2.size
    have hw2 := hal.trans (hb2.mono hal.size)
    clear q0 q1 q2 q3 p0 p1 p2 p3 hr2 hb2' hb1 hw1 hz1
    clear r0 r1 r2 r3 n0
    have q0 := (hb2.cell (p := ⟨w.heap.size, 0, none⟩) (by simp only; omega)).trans (HQ.out 0 _ rfl)
    have q1 := (hb2.cell (p := ⟨w.heap.size, 1, none⟩) (by simp only; omega)).trans (HQ.out 1 _ rfl)
    have q2 := (hb2.cell (p := ⟨w.heap.size, 2, none⟩) (by simp only; omega)).trans (HQ.out 2 _ rfl)
    have q3 := (hb2.cell (p := ⟨w.heap.size, 3, none⟩) (by simp only; omega)).trans (HQ.out 3 _ rfl)
    have p0 := (hb2.cell (p := ⟨w.heap.size + 1, 0, none⟩) (by simp only; omega)).trans (HP.out 0 _ rfl)
    have p1 := (hb2.cell (p := ⟨w.heap.size + 1, 1, none⟩) (by simp only; omega)).trans (HP.out 1 _ rfl)
    have p2 := (hb2.cell (p := ⟨w.heap.size + 1, 2, none⟩) (by simp only; omega)).trans (HP.out 2 _ rfl)
    have p3 := (hb2.cell (p := ⟨w.heap.size + 1, 3, none⟩) (by simp only; omega)).trans (HP.out 3 _ rfl)
    have r0 := (hb2.cell (p := ⟨w.heap.size + 1 + 1, 0, none⟩) (by simp only; omega)).trans (HR3.out 0 _ rfl)
    have r1 := (hb2.cell (p := ⟨w.heap.size + 1 + 1, 1, none⟩) (by simp only; omega)).trans (HR3.out 1 _ rfl)
    have r2 := (hb2.cell (p := ⟨w.heap.size + 1 + 1, 2, none⟩) (by simp only; omega)).trans (HR3.out 2 _ rfl)
    have r3 := (hb2.cell (p := ⟨w.heap.size + 1 + 1, 3, none⟩) (by simp only; omega)).trans (HR3.out 3 _ rfl)
    have n0 := fun j => (hb2.frozen (p := ⟨w.heap.size + 1 + 1, j, none⟩) (by simp only; omega)).trans (HN3.out j)
    cases r2w
    · clear q0 q1 q2 q3 p0 p1 p2 p3
      go_wp2_with fail
      go_loopw [6, 7, 8, 20] (fun fd ct _ i wr => ∃ (k f c : Nat), k ≤ 4 ∧ f < 4 ∧ c ≤ 4 ∧ i = .int .i64 k ∧ fd = .int .i64 f ∧ ct = .int .i64 c ∧ Hid ((bdiff a b k).length = c ∧ (0 < c → (bdiff a b k).getLast? = some f)) ∧ Below W.heap.size W wr) (fun _ _ _ i _ => 4 - (intOf i).toNat)
      case atStart => exact ⟨0, 0, 0, by omega, by omega, by omega, rfl, rfl, rfl, Lib.hid ⟨rfl, fun h => by omega⟩, hb2⟩
      case round =>
        obtain ⟨k, f, c, hk4, hf4, hc4, rfl, rfl, rfl, HD, hbr⟩ := hrel
        have hzr := hbr.size
        have hwr := hal.trans (hbr.mono hal.size)
        by_cases hlt : k < 4
        · have i1 : (k : Int) < 4 := by omega
          have i2 : (0 : Int) ≤ (k : Int) := by omega
          obtain ⟨x, hx, vx⟩ := bvalid_get HA.out hlt
          obtain ⟨y, hy, vy⟩ := bvalid_get HB.out hlt
          obtain ⟨sv, hsv, hss⟩ := HS.out.left hx
          obtain ⟨tv, htv, htt⟩ := HU.out.left hy
          have d0 : wr.cell? ⟨w.heap.size, k, none⟩ = some sv := (hbr.cell (p := ⟨w.heap.size, k, none⟩) (by simp only; omega)).trans (HQ.out k sv hsv)
          have d1 : wr.cell? ⟨w.heap.size + 1, k, none⟩ = some tv := (hbr.cell (p := ⟨w.heap.size + 1, k, none⟩) (by simp only; omega)).trans (HP.out k tv htv)
          have HSV := Lib.hid (hss.below hwr)
          have HTV := Lib.hid (htt.below hwr)
          obtain ⟨r, hr⟩ : ∃ r, decide (x = y) = r := ⟨_, rfl⟩
          have HRR := Lib.hid hr
          have HST := Lib.hid (bdiff_step hx hy hr)
          have hcl : c < 4 := by have h1 := HD.out.1; have h2 := bdiff_len a b k; omega
          clear hx hy vx vy hss htt hsv htv hr
          go_wp2_with fail
          (refine wp_region_bel (W := wr) [BIs (.int .i64 (k : Int)), BIs (.pointer (some ⟨w.heap.size, k, none⟩)), BIs (sv), BIs (.int .i64 (k : Int)), BIs (.pointer (some ⟨w.heap.size + 1, k, none⟩)), BIs (tv), (BIs (.bool r)), BIs (.bool (!r))] (by kernel_rfl) (fun u => by simp only [frU, Act.put, List.setIfInBounds_toArray, List.set_cons_succ, List.set_cons_zero, Nat.zero_add, Nat.reduceAdd]; exact rfl) (by kernel_rfl) ⟨bst_is _, bst_is _, bst_is _, bst_is _, bst_is _, bst_is _, (bst_is _), bst_is _, trivial⟩ ?_ ?_; exact ⟨stB rfl (fun u w3 hC hd Q K hK => by (go_step; exact hK _ _ rfl (Below.refl _ _) rfl)), stB rfl (fun u w3 hC hd Q K hK => by (have hu := bis (w := w3) (hd 0 rfl); rw [hu] at hK ⊢; clear hu; go_step; exact hK _ _ rfl (Below.refl _ _) rfl)), stB rfl (fun u w3 hC hd Q K hK => by (have hu := bis (w := w3) (hd 1 rfl); rw [hu] at hK ⊢; clear hu; have z0 := (hC.cell (p := ⟨w.heap.size, k, none⟩) (by simp only; omega)).trans d0; go_step; exact hK _ _ rfl (Below.refl _ _) rfl)), stB rfl (fun u w3 hC hd Q K hK => by (go_step; exact hK _ _ rfl (Below.refl _ _) rfl)), stB rfl (fun u w3 hC hd Q K hK => by (have hu := bis (w := w3) (hd 3 rfl); rw [hu] at hK ⊢; clear hu; go_step; exact hK _ _ rfl (Below.refl _ _) rfl)), stB rfl (fun u w3 hC hd Q K hK => by (have hu := bis (w := w3) (hd 4 rfl); rw [hu] at hK ⊢; clear hu; have z0 := (hC.cell (p := ⟨w.heap.size + 1, k, none⟩) (by simp only; omega)).trans d1; go_step; exact hK _ _ rfl (Below.refl _ _) rfl)), stB rfl (fun u w3 hC hd Q K hK => by (have hu := bis (w := w3) (hd 2 rfl); rw [hu] at hK ⊢; clear hu; have hu := bis (w := w3) (hd 5 rfl); rw [hu] at hK ⊢; clear hu; go_step; refine (slicesEq_b (HSV.out.below hC) (HTV.out.below hC) HRR.out).mono ?_; rintro e w4 ⟨rfl, hb4⟩; exact hK _ _ rfl hb4 rfl)), stB rfl (fun u w3 hC hd Q K hK => by (have hu := bis (w := w3) (hd 6 rfl); rw [hu] at hK ⊢; clear hu; go_step; exact hK _ _ rfl (Below.refl _ _) rfl)), trivial⟩); intro u w9 hb_w9 hF; rw [bis (w := w9) (hF 0 (by decide))]; rw [bis (w := w9) (hF 1 (by decide))]; rw [bis (w := w9) (hF 2 (by decide))]; rw [bis (w := w9) (hF 3 (by decide))]; rw [bis (w := w9) (hF 4 (by decide))]; rw [bis (w := w9) (hF 5 (by decide))]; generalize u 6 = vx6 at *; rw [bis (w := w9) (hF 7 (by decide))]; clear hF
          have hb9 : Below W.heap.size W w9 := hbr.trans (hb_w9.mono hzr)
          clear hb_w9 d0 d1
          cases r
          · have HD2 := Lib.hid (show (bdiff a b (k + 1)).length = c + 1 ∧ (0 < c + 1 → (bdiff a b (k + 1)).getLast? = some k) by
              rw [HST.out]
              refine ⟨by simp [HD.out.1], fun _ => by simp⟩)
            go_wp2
            go_roundw
            case rel => exact ⟨k + 1, k, c + 1, by omega, by omega, by omega, by go_num, rfl, by go_num, HD2, hb9⟩
            case measure => simp [intOf]; omega
          · have HD2 := Lib.hid (show (bdiff a b (k + 1)).length = c ∧ (0 < c → (bdiff a b (k + 1)).getLast? = some f) by
              rw [HST.out]
              simpa using HD.out)
            go_wp2
            go_roundw
            case rel => exact ⟨k + 1, f, c, by omega, by omega, by omega, by go_num, rfl, rfl, HD2, hb9⟩
            case measure => simp [intOf]; omega
        · have hkn : k = 4 := by omega
          subst hkn
          by_cases hc1 : c = 1
          · have HB1 := Lib.hid (show bdiff a b 4 = [f] by
              obtain ⟨h1, h2⟩ := HD.out
              have h3 := h2 (by omega)
              rw [hc1] at h1
              obtain ⟨n, hn⟩ := List.length_eq_one_iff.1 h1
              rw [hn] at h3 ⊢
              simp at h3
              rw [h3])
            subst hc1
            obtain ⟨x, hx, vx⟩ := bvalid_get HA.out hf4
            obtain ⟨y, hy, vy⟩ := bvalid_get HB.out hf4
            obtain ⟨sv, hsv, hss⟩ := HS.out.left hx
            obtain ⟨tv, htv, htt⟩ := HU.out.left hy
            have d0 : wr.cell? ⟨w.heap.size, f, none⟩ = some sv := (hbr.cell (p := ⟨w.heap.size, f, none⟩) (by simp only; omega)).trans (HQ.out f sv hsv)
            have d1 : wr.cell? ⟨w.heap.size + 1, f, none⟩ = some tv := (hbr.cell (p := ⟨w.heap.size + 1, f, none⟩) (by simp only; omega)).trans (HP.out f tv htv)
            have HSV := Lib.hid (hss.below hwr)
            have HTV := Lib.hid (htt.below hwr)
            have GX := Lib.hid (svalid_good vx)
            have GY := Lib.hid (svalid_good vy)
            obtain ⟨L, hL⟩ : ∃ L, mergeU a b f = L := ⟨_, rfl⟩
            have HLU := Lib.hid ((mergeU_get hx hy).trans hL)
            have HLL := Lib.hid hL
            obtain ⟨t0, t1⟩ := top_le hf4
            obtain ⟨r, hr⟩ : ∃ r, decide (L.length ≤ 40) = r := ⟨_, rfl⟩
            have HRR := Lib.hid hr
            have i1 : (f : Int) < 4 := by omega
            have i2 : (0 : Int) ≤ (f : Int) := by omega
            clear hx hy vx vy hss htt hsv htv hL hr
            go_wp2_with fail
            (refine wp_region_bel (W := wr) [BIs (.int .i64 (f : Int)), BIs (.pointer (some ⟨w.heap.size, f, none⟩)), BIs (sv), BIs (.int .i64 (f : Int)), BIs (.pointer (some ⟨w.heap.size + 1, f, none⟩)), BIs (tv), BIs (.int .i64 (f : Int)), (BIs (.int .i64 (top f))), (fun w v => ∃ q, v = .tuple #[q, .bool r] ∧ OwnSp wr.heap.size w q (slim L)), (fun w v => ∃ q, v = .tuple #[q, .bool r] ∧ OwnSp wr.heap.size w q (slim L)), (fun w v => OwnSp wr.heap.size w v (slim L)), BIs (.bool r), (fun w v => OwnSp wr.heap.size w v (slim L)), BIs (.bool r)] (by kernel_rfl) (fun u => by simp only [frU, Act.put, List.setIfInBounds_toArray, List.set_cons_succ, List.set_cons_zero, Nat.zero_add, Nat.reduceAdd]; exact rfl) (by kernel_rfl) ⟨bst_is _, bst_is _, bst_is _, bst_is _, bst_is _, bst_is _, bst_is _, (bst_is _), (fun _ _ _ hb ⟨q, h1, h2⟩ => ⟨q, h1, OwnSl.kept h2 hb⟩), (fun _ _ _ hb ⟨q, h1, h2⟩ => ⟨q, h1, OwnSl.kept h2 hb⟩), (fun _ _ _ hb h => OwnSl.kept h hb), bst_is _, (fun _ _ _ hb h => OwnSl.kept h hb), bst_is _, trivial⟩ ?_ ?_; exact ⟨stB rfl (fun u w3 hC hd Q K hK => by (go_step; exact hK _ _ rfl (Below.refl _ _) rfl)), stB rfl (fun u w3 hC hd Q K hK => by (have hu := bis (w := w3) (hd 0 rfl); rw [hu] at hK ⊢; clear hu; go_step; exact hK _ _ rfl (Below.refl _ _) rfl)), stB rfl (fun u w3 hC hd Q K hK => by (have hu := bis (w := w3) (hd 1 rfl); rw [hu] at hK ⊢; clear hu; have z0 := (hC.cell (p := ⟨w.heap.size, f, none⟩) (by simp only; omega)).trans d0; go_step; exact hK _ _ rfl (Below.refl _ _) rfl)), stB rfl (fun u w3 hC hd Q K hK => by (go_step; exact hK _ _ rfl (Below.refl _ _) rfl)), stB rfl (fun u w3 hC hd Q K hK => by (have hu := bis (w := w3) (hd 3 rfl); rw [hu] at hK ⊢; clear hu; go_step; exact hK _ _ rfl (Below.refl _ _) rfl)), stB rfl (fun u w3 hC hd Q K hK => by (have hu := bis (w := w3) (hd 4 rfl); rw [hu] at hK ⊢; clear hu; have z0 := (hC.cell (p := ⟨w.heap.size + 1, f, none⟩) (by simp only; omega)).trans d1; go_step; exact hK _ _ rfl (Below.refl _ _) rfl)), stB rfl (fun u w3 hC hd Q K hK => by (go_step; exact hK _ _ rfl (Below.refl _ _) rfl)), stB rfl (fun u w3 hC hd Q K hK => by (have hu := bis (w := w3) (hd 6 rfl); rw [hu] at hK ⊢; clear hu; go_step; refine (FieldTop_any f hf4 _ (ht.below (hwr.trans (hC.mono hwr.size)))).mono ?_; rintro e w4 ⟨rfl, rfl⟩; exact hK _ _ rfl (Below.refl _ _) rfl)), stB rfl (fun u w3 hC hd Q K hK => by (have hu := bis (w := w3) (hd 2 rfl); rw [hu] at hK ⊢; clear hu; have hu := bis (w := w3) (hd 5 rfl); rw [hu] at hK ⊢; clear hu; have hu := bis (w := w3) (hd 7 rfl); rw [hu] at hK ⊢; clear hu; go_step; refine (unionSpans_r HLU.out HRR.out (HSV.out.below hC) (HTV.out.below hC) GX.out GY.out t0 t1).mono ?_; rintro e w4 ⟨z4, rfl, ho4, hb4⟩; exact hK _ _ rfl hb4 ⟨z4, rfl, OwnSl.mono ho4 hC.size⟩)), stB rfl (fun u w3 hC hd Q K hK => by (obtain ⟨q, hu, ho⟩ := hd 8 rfl; rw [hu] at hK ⊢; clear hu; go_step; exact hK _ _ rfl (Below.refl _ _) ⟨q, rfl, ho⟩)), stB rfl (fun u w3 hC hd Q K hK => by (obtain ⟨q, hu, ho⟩ := hd 9 rfl; rw [hu] at hK ⊢; clear hu; go_step; exact hK _ _ rfl (Below.refl _ _) ho)), stB rfl (fun u w3 hC hd Q K hK => by (obtain ⟨q, hu, ho⟩ := hd 9 rfl; rw [hu] at hK ⊢; clear hu; go_step; exact hK _ _ rfl (Below.refl _ _) rfl)), stB rfl (fun u w3 hC hd Q K hK => by (have ho1 := hd 10 rfl; generalize u 10 = q1 at *; go_step; exact hK _ _ rfl (Below.refl _ _) ho1)), stB rfl (fun u w3 hC hd Q K hK => by (have hu := bis (w := w3) (hd 11 rfl); rw [hu] at hK ⊢; clear hu; go_step; exact hK _ _ rfl (Below.refl _ _) rfl)), trivial⟩); intro u w9 hb_w9 hF; rw [bis (w := w9) (hF 0 (by decide))]; rw [bis (w := w9) (hF 1 (by decide))]; rw [bis (w := w9) (hF 2 (by decide))]; rw [bis (w := w9) (hF 3 (by decide))]; rw [bis (w := w9) (hF 4 (by decide))]; rw [bis (w := w9) (hF 5 (by decide))]; rw [bis (w := w9) (hF 6 (by decide))]; generalize u 7 = vx7 at *; generalize u 8 = vx8 at *; generalize u 9 = vx9 at *; generalize u 10 = vx10 at *; rw [bis (w := w9) (hF 11 (by decide))]; have hz8 := hF 12 (by decide); generalize u 12 = z8 at *; rw [bis (w := w9) (hF 13 (by decide))]; clear hF
            replace hz8 : OwnSp wr.heap.size w9 z8 (slim L) := hz8
            have hb9 : Below W.heap.size W w9 := hbr.trans (hb_w9.mono hzr)
            have hw9 := hal.trans (hb9.mono hal.size)
            have hz9 := hb9.size
            obtain ⟨za, zc, rfl, -, -⟩ := (OwnSp.sps hz8).form
            have HZ8 := Lib.hid hz8
            clear hb_w9 d0 d1 hz8
            clear r0 r1 r2 r3 n0
            have q0 := (hb9.cell (p := ⟨w.heap.size, 0, none⟩) (by simp only; omega)).trans (HQ.out 0 _ rfl)
            have q1 := (hb9.cell (p := ⟨w.heap.size, 1, none⟩) (by simp only; omega)).trans (HQ.out 1 _ rfl)
            have q2 := (hb9.cell (p := ⟨w.heap.size, 2, none⟩) (by simp only; omega)).trans (HQ.out 2 _ rfl)
            have q3 := (hb9.cell (p := ⟨w.heap.size, 3, none⟩) (by simp only; omega)).trans (HQ.out 3 _ rfl)
            have p0 := (hb9.cell (p := ⟨w.heap.size + 1, 0, none⟩) (by simp only; omega)).trans (HP.out 0 _ rfl)
            have p1 := (hb9.cell (p := ⟨w.heap.size + 1, 1, none⟩) (by simp only; omega)).trans (HP.out 1 _ rfl)
            have p2 := (hb9.cell (p := ⟨w.heap.size + 1, 2, none⟩) (by simp only; omega)).trans (HP.out 2 _ rfl)
            have p3 := (hb9.cell (p := ⟨w.heap.size + 1, 3, none⟩) (by simp only; omega)).trans (HP.out 3 _ rfl)
            have r0 := (hb9.cell (p := ⟨w.heap.size + 1 + 1, 0, none⟩) (by simp only; omega)).trans (HR3.out 0 _ rfl)
            have r1 := (hb9.cell (p := ⟨w.heap.size + 1 + 1, 1, none⟩) (by simp only; omega)).trans (HR3.out 1 _ rfl)
            have r2 := (hb9.cell (p := ⟨w.heap.size + 1 + 1, 2, none⟩) (by simp only; omega)).trans (HR3.out 2 _ rfl)
            have r3 := (hb9.cell (p := ⟨w.heap.size + 1 + 1, 3, none⟩) (by simp only; omega)).trans (HR3.out 3 _ rfl)
            have n0 := fun j => (hb9.frozen (p := ⟨w.heap.size + 1 + 1, j, none⟩) (by simp only; omega)).trans (HN3.out j)
            cases r
            · have HM := Lib.hid (show mergeB a b = none by rw [mergeB_yes HW1.out HW2.out HB1.out, HLL.out, if_neg (of_decide_eq_false HRR.out)])
              have hwW : Below w.heap.size w ((((w9.setCell ⟨w.heap.size + 1 + 1, 0, none⟩ (.slice none 0 0)).setCell ⟨w.heap.size + 1 + 1, 1, none⟩ (.slice none 0 0)).setCell ⟨w.heap.size + 1 + 1, 2, none⟩ (.slice none 0 0)).setCell ⟨w.heap.size + 1 + 1, 3, none⟩ (.slice none 0 0)) := ((((hw9).setCell (by simp only; omega) _).setCell (by simp only; omega) _).setCell (by simp only; omega) _).setCell (by simp only; omega) _
              go_wp2
              refine bodyPost_ret (v := .tuple #[.agg #[.slice none 0 0, .slice none 0 0, .slice none 0 0, .slice none 0 0], .bool false]) ?_ rfl ⟨_, _, _, _, _, _, _, _, _, _, _, _, by rw [HM.out]; rfl, ?_, hwW⟩
              · simp [results, Tryd.results56, go_sem, r0, r1, r2, r3]
              · exact fun c h => by rw [HM.out] at h; cases h
            · have HM := Lib.hid (show mergeB a b = some (a.set f L) by rw [mergeB_yes HW1.out HW2.out HB1.out, HLL.out, if_pos (of_decide_eq_true HRR.out)])
              have hsl : slim L = L := by unfold slim; rw [if_pos (of_decide_eq_true HRR.out)]
              rw [hsl] at HZ8 ⊢
              have hpw : w.heap.size + 1 + 1 < wr.heap.size := by omega
              have hf0 : f = 0 ∨ f = 1 ∨ f = 2 ∨ f = 3 := by omega
              clear hsl
              have hzz : w.heap.size + 1 + 1 < w9.heap.size := by omega
              rcases hf0 with rfl | rfl | rfl | rfl
              · have hwW : Below w.heap.size w (((((w9.setCell ⟨w.heap.size + 1 + 1, 0, none⟩ (.slice za L.length zc)).setCell ⟨w.heap.size + 1 + 1, 1, none⟩ (.slice A1 N1 P1)).setCell ⟨w.heap.size + 1 + 1, 2, none⟩ (.slice A2 N2 P2)).setCell ⟨w.heap.size + 1 + 1, 3, none⟩ (.slice A3 N3 P3)).alloc (.cells #[.slice za L.length zc, .slice A1 N1 P1, .slice A2 N2 P2, .slice A3 N3 P3] 89)) := (((((hw9).setCell (by simp only; omega) _).setCell (by simp only; omega) _).setCell (by simp only; omega) _).setCell (by simp only; omega) _).alloc (by simp; omega) _
                have e0 : (((((w9.setCell ⟨w.heap.size + 1 + 1, 0, none⟩ (.slice za L.length zc)).setCell ⟨w.heap.size + 1 + 1, 1, none⟩ (.slice A1 N1 P1)).setCell ⟨w.heap.size + 1 + 1, 2, none⟩ (.slice A2 N2 P2)).setCell ⟨w.heap.size + 1 + 1, 3, none⟩ (.slice A3 N3 P3)).alloc (.cells #[.slice za L.length zc, .slice A1 N1 P1, .slice A2 N2 P2, .slice A3 N3 P3] 89)).cell? ⟨w.heap.size + 1 + 1, 0, none⟩ = some (.slice za L.length zc) := by
                  rw [World.cell?_alloc_lt _ _ ⟨w.heap.size + 1 + 1, 0, none⟩ (by simp; omega)]
                  go_simp
                have e1 : (((((w9.setCell ⟨w.heap.size + 1 + 1, 0, none⟩ (.slice za L.length zc)).setCell ⟨w.heap.size + 1 + 1, 1, none⟩ (.slice A1 N1 P1)).setCell ⟨w.heap.size + 1 + 1, 2, none⟩ (.slice A2 N2 P2)).setCell ⟨w.heap.size + 1 + 1, 3, none⟩ (.slice A3 N3 P3)).alloc (.cells #[.slice za L.length zc, .slice A1 N1 P1, .slice A2 N2 P2, .slice A3 N3 P3] 89)).cell? ⟨w.heap.size + 1 + 1, 1, none⟩ = some (.slice A1 N1 P1) := by
                  rw [World.cell?_alloc_lt _ _ ⟨w.heap.size + 1 + 1, 1, none⟩ (by simp; omega)]
                  go_simp
                have e2 : (((((w9.setCell ⟨w.heap.size + 1 + 1, 0, none⟩ (.slice za L.length zc)).setCell ⟨w.heap.size + 1 + 1, 1, none⟩ (.slice A1 N1 P1)).setCell ⟨w.heap.size + 1 + 1, 2, none⟩ (.slice A2 N2 P2)).setCell ⟨w.heap.size + 1 + 1, 3, none⟩ (.slice A3 N3 P3)).alloc (.cells #[.slice za L.length zc, .slice A1 N1 P1, .slice A2 N2 P2, .slice A3 N3 P3] 89)).cell? ⟨w.heap.size + 1 + 1, 2, none⟩ = some (.slice A2 N2 P2) := by
                  rw [World.cell?_alloc_lt _ _ ⟨w.heap.size + 1 + 1, 2, none⟩ (by simp; omega)]
                  go_simp
                have e3 : (((((w9.setCell ⟨w.heap.size + 1 + 1, 0, none⟩ (.slice za L.length zc)).setCell ⟨w.heap.size + 1 + 1, 1, none⟩ (.slice A1 N1 P1)).setCell ⟨w.heap.size + 1 + 1, 2, none⟩ (.slice A2 N2 P2)).setCell ⟨w.heap.size + 1 + 1, 3, none⟩ (.slice A3 N3 P3)).alloc (.cells #[.slice za L.length zc, .slice A1 N1 P1, .slice A2 N2 P2, .slice A3 N3 P3] 89)).cell? ⟨w.heap.size + 1 + 1, 3, none⟩ = some (.slice A3 N3 P3) := by
                  rw [World.cell?_alloc_lt _ _ ⟨w.heap.size + 1 + 1, 3, none⟩ (by simp; omega)]
                  go_simp
                clear HQ HP HR3 HN3
                go_wp2
                refine bodyPost_ret (v := .tuple #[.agg #[.slice za L.length zc, .slice A1 N1 P1, .slice A2 N2 P2, .slice A3 N3 P3], .bool true]) ?_ rfl ⟨_, _, _, _, _, _, _, _, _, _, _, _, by rw [HM.out]; rfl, ?_, hwW⟩
                · simp [results, Tryd.results56, go_sem, e0, e1, e2, e3]
                · exact fun c h => by rw [HM.out] at h; cases h; exact (All2.set (HS.out.mono (fun _ _ g => (g.below hwW).mono (Nat.zero_le _))) ((OwnSp.sps (OwnSp.set4 HZ8.out hpw)).mono (Nat.zero_le _)) 0 : All2 (Sps 0 _) _ _)
              · have hwW : Below w.heap.size w (((((w9.setCell ⟨w.heap.size + 1 + 1, 0, none⟩ (.slice A0 N0 P0)).setCell ⟨w.heap.size + 1 + 1, 1, none⟩ (.slice za L.length zc)).setCell ⟨w.heap.size + 1 + 1, 2, none⟩ (.slice A2 N2 P2)).setCell ⟨w.heap.size + 1 + 1, 3, none⟩ (.slice A3 N3 P3)).alloc (.cells #[.slice A0 N0 P0, .slice za L.length zc, .slice A2 N2 P2, .slice A3 N3 P3] 89)) := (((((hw9).setCell (by simp only; omega) _).setCell (by simp only; omega) _).setCell (by simp only; omega) _).setCell (by simp only; omega) _).alloc (by simp; omega) _
                have e0 : (((((w9.setCell ⟨w.heap.size + 1 + 1, 0, none⟩ (.slice A0 N0 P0)).setCell ⟨w.heap.size + 1 + 1, 1, none⟩ (.slice za L.length zc)).setCell ⟨w.heap.size + 1 + 1, 2, none⟩ (.slice A2 N2 P2)).setCell ⟨w.heap.size + 1 + 1, 3, none⟩ (.slice A3 N3 P3)).alloc (.cells #[.slice A0 N0 P0, .slice za L.length zc, .slice A2 N2 P2, .slice A3 N3 P3] 89)).cell? ⟨w.heap.size + 1 + 1, 0, none⟩ = some (.slice A0 N0 P0) := by
                  rw [World.cell?_alloc_lt _ _ ⟨w.heap.size + 1 + 1, 0, none⟩ (by simp; omega)]
                  go_simp
                have e1 : (((((w9.setCell ⟨w.heap.size + 1 + 1, 0, none⟩ (.slice A0 N0 P0)).setCell ⟨w.heap.size + 1 + 1, 1, none⟩ (.slice za L.length zc)).setCell ⟨w.heap.size + 1 + 1, 2, none⟩ (.slice A2 N2 P2)).setCell ⟨w.heap.size + 1 + 1, 3, none⟩ (.slice A3 N3 P3)).alloc (.cells #[.slice A0 N0 P0, .slice za L.length zc, .slice A2 N2 P2, .slice A3 N3 P3] 89)).cell? ⟨w.heap.size + 1 + 1, 1, none⟩ = some (.slice za L.length zc) := by
                  rw [World.cell?_alloc_lt _ _ ⟨w.heap.size + 1 + 1, 1, none⟩ (by simp; omega)]
                  go_simp
                have e2 : (((((w9.setCell ⟨w.heap.size + 1 + 1, 0, none⟩ (.slice A0 N0 P0)).setCell ⟨w.heap.size + 1 + 1, 1, none⟩ (.slice za L.length zc)).setCell ⟨w.heap.size + 1 + 1, 2, none⟩ (.slice A2 N2 P2)).setCell ⟨w.heap.size + 1 + 1, 3, none⟩ (.slice A3 N3 P3)).alloc (.cells #[.slice A0 N0 P0, .slice za L.length zc, .slice A2 N2 P2, .slice A3 N3 P3] 89)).cell? ⟨w.heap.size + 1 + 1, 2, none⟩ = some (.slice A2 N2 P2) := by
                  rw [World.cell?_alloc_lt _ _ ⟨w.heap.size + 1 + 1, 2, none⟩ (by simp; omega)]
                  go_simp
                have e3 : (((((w9.setCell ⟨w.heap.size + 1 + 1, 0, none⟩ (.slice A0 N0 P0)).setCell ⟨w.heap.size + 1 + 1, 1, none⟩ (.slice za L.length zc)).setCell ⟨w.heap.size + 1 + 1, 2, none⟩ (.slice A2 N2 P2)).setCell ⟨w.heap.size + 1 + 1, 3, none⟩ (.slice A3 N3 P3)).alloc (.cells #[.slice A0 N0 P0, .slice za L.length zc, .slice A2 N2 P2, .slice A3 N3 P3] 89)).cell? ⟨w.heap.size + 1 + 1, 3, none⟩ = some (.slice A3 N3 P3) := by
                  rw [World.cell?_alloc_lt _ _ ⟨w.heap.size + 1 + 1, 3, none⟩ (by simp; omega)]
                  go_simp
                clear HQ HP HR3 HN3
                go_wp2
                refine bodyPost_ret (v := .tuple #[.agg #[.slice A0 N0 P0, .slice za L.length zc, .slice A2 N2 P2, .slice A3 N3 P3], .bool true]) ?_ rfl ⟨_, _, _, _, _, _, _, _, _, _, _, _, by rw [HM.out]; rfl, ?_, hwW⟩
                · simp [results, Tryd.results56, go_sem, e0, e1, e2, e3]
                · exact fun c h => by rw [HM.out] at h; cases h; exact (All2.set (HS.out.mono (fun _ _ g => (g.below hwW).mono (Nat.zero_le _))) ((OwnSp.sps (OwnSp.set4 HZ8.out hpw)).mono (Nat.zero_le _)) 1 : All2 (Sps 0 _) _ _)
              · have hwW : Below w.heap.size w (((((w9.setCell ⟨w.heap.size + 1 + 1, 0, none⟩ (.slice A0 N0 P0)).setCell ⟨w.heap.size + 1 + 1, 1, none⟩ (.slice A1 N1 P1)).setCell ⟨w.heap.size + 1 + 1, 2, none⟩ (.slice za L.length zc)).setCell ⟨w.heap.size + 1 + 1, 3, none⟩ (.slice A3 N3 P3)).alloc (.cells #[.slice A0 N0 P0, .slice A1 N1 P1, .slice za L.length zc, .slice A3 N3 P3] 89)) := (((((hw9).setCell (by simp only; omega) _).setCell (by simp only; omega) _).setCell (by simp only; omega) _).setCell (by simp only; omega) _).alloc (by simp; omega) _
                have e0 : (((((w9.setCell ⟨w.heap.size + 1 + 1, 0, none⟩ (.slice A0 N0 P0)).setCell ⟨w.heap.size + 1 + 1, 1, none⟩ (.slice A1 N1 P1)).setCell ⟨w.heap.size + 1 + 1, 2, none⟩ (.slice za L.length zc)).setCell ⟨w.heap.size + 1 + 1, 3, none⟩ (.slice A3 N3 P3)).alloc (.cells #[.slice A0 N0 P0, .slice A1 N1 P1, .slice za L.length zc, .slice A3 N3 P3] 89)).cell? ⟨w.heap.size + 1 + 1, 0, none⟩ = some (.slice A0 N0 P0) := by
                  rw [World.cell?_alloc_lt _ _ ⟨w.heap.size + 1 + 1, 0, none⟩ (by simp; omega)]
                  go_simp
                have e1 : (((((w9.setCell ⟨w.heap.size + 1 + 1, 0, none⟩ (.slice A0 N0 P0)).setCell ⟨w.heap.size + 1 + 1, 1, none⟩ (.slice A1 N1 P1)).setCell ⟨w.heap.size + 1 + 1, 2, none⟩ (.slice za L.length zc)).setCell ⟨w.heap.size + 1 + 1, 3, none⟩ (.slice A3 N3 P3)).alloc (.cells #[.slice A0 N0 P0, .slice A1 N1 P1, .slice za L.length zc, .slice A3 N3 P3] 89)).cell? ⟨w.heap.size + 1 + 1, 1, none⟩ = some (.slice A1 N1 P1) := by
                  rw [World.cell?_alloc_lt _ _ ⟨w.heap.size + 1 + 1, 1, none⟩ (by simp; omega)]
                  go_simp
                have e2 : (((((w9.setCell ⟨w.heap.size + 1 + 1, 0, none⟩ (.slice A0 N0 P0)).setCell ⟨w.heap.size + 1 + 1, 1, none⟩ (.slice A1 N1 P1)).setCell ⟨w.heap.size + 1 + 1, 2, none⟩ (.slice za L.length zc)).setCell ⟨w.heap.size + 1 + 1, 3, none⟩ (.slice A3 N3 P3)).alloc (.cells #[.slice A0 N0 P0, .slice A1 N1 P1, .slice za L.length zc, .slice A3 N3 P3] 89)).cell? ⟨w.heap.size + 1 + 1, 2, none⟩ = some (.slice za L.length zc) := by
                  rw [World.cell?_alloc_lt _ _ ⟨w.heap.size + 1 + 1, 2, none⟩ (by simp; omega)]
                  go_simp
                have e3 : (((((w9.setCell ⟨w.heap.size + 1 + 1, 0, none⟩ (.slice A0 N0 P0)).setCell ⟨w.heap.size + 1 + 1, 1, none⟩ (.slice A1 N1 P1)).setCell ⟨w.heap.size + 1 + 1, 2, none⟩ (.slice za L.length zc)).setCell ⟨w.heap.size + 1 + 1, 3, none⟩ (.slice A3 N3 P3)).alloc (.cells #[.slice A0 N0 P0, .slice A1 N1 P1, .slice za L.length zc, .slice A3 N3 P3] 89)).cell? ⟨w.heap.size + 1 + 1, 3, none⟩ = some (.slice A3 N3 P3) := by
                  rw [World.cell?_alloc_lt _ _ ⟨w.heap.size + 1 + 1, 3, none⟩ (by simp; omega)]
                  go_simp
                clear HQ HP HR3 HN3
                go_wp2
                refine bodyPost_ret (v := .tuple #[.agg #[.slice A0 N0 P0, .slice A1 N1 P1, .slice za L.length zc, .slice A3 N3 P3], .bool true]) ?_ rfl ⟨_, _, _, _, _, _, _, _, _, _, _, _, by rw [HM.out]; rfl, ?_, hwW⟩
                · simp [results, Tryd.results56, go_sem, e0, e1, e2, e3]
                · exact fun c h => by rw [HM.out] at h; cases h; exact (All2.set (HS.out.mono (fun _ _ g => (g.below hwW).mono (Nat.zero_le _))) ((OwnSp.sps (OwnSp.set4 HZ8.out hpw)).mono (Nat.zero_le _)) 2 : All2 (Sps 0 _) _ _)
              · have hwW : Below w.heap.size w (((((w9.setCell ⟨w.heap.size + 1 + 1, 0, none⟩ (.slice A0 N0 P0)).setCell ⟨w.heap.size + 1 + 1, 1, none⟩ (.slice A1 N1 P1)).setCell ⟨w.heap.size + 1 + 1, 2, none⟩ (.slice A2 N2 P2)).setCell ⟨w.heap.size + 1 + 1, 3, none⟩ (.slice za L.length zc)).alloc (.cells #[.slice A0 N0 P0, .slice A1 N1 P1, .slice A2 N2 P2, .slice za L.length zc] 89)) := (((((hw9).setCell (by simp only; omega) _).setCell (by simp only; omega) _).setCell (by simp only; omega) _).setCell (by simp only; omega) _).alloc (by simp; omega) _
                have e0 : (((((w9.setCell ⟨w.heap.size + 1 + 1, 0, none⟩ (.slice A0 N0 P0)).setCell ⟨w.heap.size + 1 + 1, 1, none⟩ (.slice A1 N1 P1)).setCell ⟨w.heap.size + 1 + 1, 2, none⟩ (.slice A2 N2 P2)).setCell ⟨w.heap.size + 1 + 1, 3, none⟩ (.slice za L.length zc)).alloc (.cells #[.slice A0 N0 P0, .slice A1 N1 P1, .slice A2 N2 P2, .slice za L.length zc] 89)).cell? ⟨w.heap.size + 1 + 1, 0, none⟩ = some (.slice A0 N0 P0) := by
                  rw [World.cell?_alloc_lt _ _ ⟨w.heap.size + 1 + 1, 0, none⟩ (by simp; omega)]
                  go_simp
                have e1 : (((((w9.setCell ⟨w.heap.size + 1 + 1, 0, none⟩ (.slice A0 N0 P0)).setCell ⟨w.heap.size + 1 + 1, 1, none⟩ (.slice A1 N1 P1)).setCell ⟨w.heap.size + 1 + 1, 2, none⟩ (.slice A2 N2 P2)).setCell ⟨w.heap.size + 1 + 1, 3, none⟩ (.slice za L.length zc)).alloc (.cells #[.slice A0 N0 P0, .slice A1 N1 P1, .slice A2 N2 P2, .slice za L.length zc] 89)).cell? ⟨w.heap.size + 1 + 1, 1, none⟩ = some (.slice A1 N1 P1) := by
                  rw [World.cell?_alloc_lt _ _ ⟨w.heap.size + 1 + 1, 1, none⟩ (by simp; omega)]
                  go_simp
                have e2 : (((((w9.setCell ⟨w.heap.size + 1 + 1, 0, none⟩ (.slice A0 N0 P0)).setCell ⟨w.heap.size + 1 + 1, 1, none⟩ (.slice A1 N1 P1)).setCell ⟨w.heap.size + 1 + 1, 2, none⟩ (.slice A2 N2 P2)).setCell ⟨w.heap.size + 1 + 1, 3, none⟩ (.slice za L.length zc)).alloc (.cells #[.slice A0 N0 P0, .slice A1 N1 P1, .slice A2 N2 P2, .slice za L.length zc] 89)).cell? ⟨w.heap.size + 1 + 1, 2, none⟩ = some (.slice A2 N2 P2) := by
                  rw [World.cell?_alloc_lt _ _ ⟨w.heap.size + 1 + 1, 2, none⟩ (by simp; omega)]
                  go_simp
                have e3 : (((((w9.setCell ⟨w.heap.size + 1 + 1, 0, none⟩ (.slice A0 N0 P0)).setCell ⟨w.heap.size + 1 + 1, 1, none⟩ (.slice A1 N1 P1)).setCell ⟨w.heap.size + 1 + 1, 2, none⟩ (.slice A2 N2 P2)).setCell ⟨w.heap.size + 1 + 1, 3, none⟩ (.slice za L.length zc)).alloc (.cells #[.slice A0 N0 P0, .slice A1 N1 P1, .slice A2 N2 P2, .slice za L.length zc] 89)).cell? ⟨w.heap.size + 1 + 1, 3, none⟩ = some (.slice za L.length zc) := by
                  rw [World.cell?_alloc_lt _ _ ⟨w.heap.size + 1 + 1, 3, none⟩ (by simp; omega)]
                  go_simp
                clear HQ HP HR3 HN3
                go_wp2
                refine bodyPost_ret (v := .tuple #[.agg #[.slice A0 N0 P0, .slice A1 N1 P1, .slice A2 N2 P2, .slice za L.length zc], .bool true]) ?_ rfl ⟨_, _, _, _, _, _, _, _, _, _, _, _, by rw [HM.out]; rfl, ?_, hwW⟩
                · simp [results, Tryd.results56, go_sem, e0, e1, e2, e3]
                · exact fun c h => by rw [HM.out] at h; cases h; exact (All2.set (HS.out.mono (fun _ _ g => (g.below hwW).mono (Nat.zero_le _))) ((OwnSp.sps (OwnSp.set4 HZ8.out hpw)).mono (Nat.zero_le _)) 3 : All2 (Sps 0 _) _ _)
          · have HM := Lib.hid (show mergeB a b = none from mergeB_no HW1.out HW2.out (by rw [HD.out.1]; exact hc1))
            have hcne : ((c : Int) == 1) = false := by simpa using (show (c : Int) ≠ 1 by omega)
            have hcnb : ((c : Int) != 1) = true := by simpa using (show (c : Int) ≠ 1 by omega)
            clear hc1
            clear r0 r1 r2 r3 n0
            have r0 := (hbr.cell (p := ⟨w.heap.size + 1 + 1, 0, none⟩) (by simp only; omega)).trans (HR3.out 0 _ rfl)
            have r1 := (hbr.cell (p := ⟨w.heap.size + 1 + 1, 1, none⟩) (by simp only; omega)).trans (HR3.out 1 _ rfl)
            have r2 := (hbr.cell (p := ⟨w.heap.size + 1 + 1, 2, none⟩) (by simp only; omega)).trans (HR3.out 2 _ rfl)
            have r3 := (hbr.cell (p := ⟨w.heap.size + 1 + 1, 3, none⟩) (by simp only; omega)).trans (HR3.out 3 _ rfl)
            have n0 := fun j => (hbr.frozen (p := ⟨w.heap.size + 1 + 1, j, none⟩) (by simp only; omega)).trans (HN3.out j)
            have hwW : Below w.heap.size w ((((wr.setCell ⟨w.heap.size + 1 + 1, 0, none⟩ (.slice none 0 0)).setCell ⟨w.heap.size + 1 + 1, 1, none⟩ (.slice none 0 0)).setCell ⟨w.heap.size + 1 + 1, 2, none⟩ (.slice none 0 0)).setCell ⟨w.heap.size + 1 + 1, 3, none⟩ (.slice none 0 0)) := ((((hwr).setCell (by simp only; omega) _).setCell (by simp only; omega) _).setCell (by simp only; omega) _).setCell (by simp only; omega) _
            go_wp2
            refine bodyPost_ret (v := .tuple #[.agg #[.slice none 0 0, .slice none 0 0, .slice none 0 0, .slice none 0 0], .bool false]) ?_ rfl ⟨_, _, _, _, _, _, _, _, _, _, _, _, by rw [HM.out]; rfl, ?_, hwW⟩
            · simp [results, Tryd.results56, go_sem, r0, r1, r2, r3]
            · exact fun c h => by rw [HM.out] at h; cases h
    · have HM := Lib.hid (show mergeB a b = some a by unfold mergeB; rw [HW1.out, HW2.out]; rfl)
      have hwW : Below w.heap.size w ((((w2.setCell ⟨w.heap.size + 1 + 1, 0, none⟩ (.slice A0 N0 P0)).setCell ⟨w.heap.size + 1 + 1, 1, none⟩ (.slice A1 N1 P1)).setCell ⟨w.heap.size + 1 + 1, 2, none⟩ (.slice A2 N2 P2)).setCell ⟨w.heap.size + 1 + 1, 3, none⟩ (.slice A3 N3 P3)) := ((((hw2).setCell (by simp only; omega) _).setCell (by simp only; omega) _).setCell (by simp only; omega) _).setCell (by simp only; omega) _
      go_wp2
      refine bodyPost_ret (v := .tuple #[.agg #[.slice A0 N0 P0, .slice A1 N1 P1, .slice A2 N2 P2, .slice A3 N3 P3], .bool true]) ?_ rfl ⟨_, _, _, _, _, _, _, _, _, _, _, _, by rw [HM.out]; rfl, ?_, hwW⟩
      · simp [results, Tryd.results56, go_sem, r0, r1, r2, r3]
      · exact fun c h => by rw [HM.out] at h; cases h; exact HS.out.mono (fun _ _ g => (g.below hwW).mono (Nat.zero_le _))
  · have HM := Lib.hid (show mergeB a b = some b by unfold mergeB; rw [HW1.out]; rfl)
    have hwW : Below w.heap.size w ((((w1.setCell ⟨w.heap.size + 1 + 1, 0, none⟩ (.slice B0 M0 Q0)).setCell ⟨w.heap.size + 1 + 1, 1, none⟩ (.slice B1 M1 Q1)).setCell ⟨w.heap.size + 1 + 1, 2, none⟩ (.slice B2 M2 Q2)).setCell ⟨w.heap.size + 1 + 1, 3, none⟩ (.slice B3 M3 Q3)) := ((((hw1).setCell (by simp only; omega) _).setCell (by simp only; omega) _).setCell (by simp only; omega) _).setCell (by simp only; omega) _
    go_wp2
    refine bodyPost_ret (v := .tuple #[.agg #[.slice B0 M0 Q0, .slice B1 M1 Q1, .slice B2 M2 Q2, .slice B3 M3 Q3], .bool true]) ?_ rfl ⟨_, _, _, _, _, _, _, _, _, _, _, _, by rw [HM.out]; rfl, ?_, hwW⟩
    · simp [results, Tryd.results56, go_sem, r0, r1, r2, r3]
    · exact fun c h => by rw [HM.out] at h; cases h; exact HU.out.mono (fun _ _ g => (g.below hwW).mono (Nat.zero_le _))
end Go.Proofs.YtajcogpfmpehkaaDoor
