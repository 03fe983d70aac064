/- Witnesses: the reference's walks. -/
import Derived.Test.YtajcogpfmpehkaaDoorPaS
import Derived.Test.YtajcogpfmpehkaaDoorFsS
import Derived.Test.YtajcogpfmpehkaaDoorOneP
namespace Go.Proofs.YtajcogpfmpehkaaDoor
open Go.RowKit
/-- The head of set number n. -/
def Hd (w : World) (bb o n : Nat) (q : Int) : Prop := ∃ (s os l k : Nat), w.cell? ⟨bb, o + n, none⟩ = some (.slice (some ⟨s, os, none⟩) l k) ∧ 0 < l ∧ s < w.heap.size ∧ w.cell? ⟨s, os, none⟩ = some (.int .i64 q)
theorem Rws.hd {lo : Nat} {w : World} {bb o cap : Nat} {b : Bx} (h : Rws lo w (.slice (some ⟨bb, o, none⟩) 4 cap) b) {n : Nat} {s : Sp} {ss : List Sp} (hn : b[n]? = some (s :: ss)) : Hd w bb o n s.lo := by
  obtain ⟨b', o', sv, e, _, hc, hs⟩ := h.at hn
  cases e
  obtain ⟨a, c, rfl, -, -⟩ := hs.form
  obtain ⟨q, oq, f1, f2, ha, hq, hx, c0, c1⟩ := hs.at (k := 0) (by simp)
  subst ha
  rw [Nat.zero_mul, Nat.add_zero] at c0
  cases hx
  exact ⟨q, oq, _, c, hc, by simp, hq, c0⟩
set_option maxHeartbeats 4000000 in
set_option maxRecDepth 100000 in
theorem l10First_any {lo : Nat} {b : Bx} {u : Value} {w : World} {q0 q1 q2 q3 : Int} (hs : Rws lo w u b) (h4 : b.length = 4) (h0 : ∃ s ss, b[0]? = some (s :: ss) ∧ s.lo = q0) (h1 : ∃ s ss, b[1]? = some (s :: ss) ∧ s.lo = q1) (h2 : ∃ s ss, b[2]? = some (s :: ss) ∧ s.lo = q2) (h3 : ∃ s ss, b[3]? = some (s :: ss) ∧ s.lo = q3) :
    Calls Tryd.prog 48 #[.agg #[u]] w fun e w' => e = .returned (.agg #[.int .i64 q0, .int .i64 q1, .int .i64 q2, .int .i64 q3]) ∧ Below w.heap.size w w' := by
  obtain ⟨s, ss, g0, rfl⟩ := h0
  obtain ⟨t, ts, g1, rfl⟩ := h1
  obtain ⟨x, xs, g2, rfl⟩ := h2
  obtain ⟨y, ys, g3, rfl⟩ := h3
  obtain ⟨ua, uc, rfl, hlc, hcm⟩ := hs.form
  rw [h4] at hs hlc ⊢
  obtain ⟨bb, o, sv, rfl, hbb0, -, -⟩ := hs.at g0
  obtain ⟨W, hW⟩ : ∃ W, (w.alloc (.cells #[.slice (some ⟨bb, o, none⟩) 4 uc] 32)).alloc (.cells #[.int .i64 0, .int .i64 0, .int .i64 0, .int .i64 0] 39) = W := ⟨_, rfl⟩
  have hal : Below w.heap.size w W := by rw [← hW]; (repeat' (first | with_reducible exact Below.refl _ _ | with_reducible assumption | with_reducible refine Below.setCell ?_ ?_ _ | with_reducible refine Below.alloc ?_ ?_ _ | with_reducible refine Below.drew ?_ | with_reducible refine belDrewN ?_ _ | with_reducible refine Below.trans ?_ (Below.mono (by assumption) ?_) | omega | (simp; omega) | (simp; done)))
  have c0 : W.cell? ⟨w.heap.size, 0, none⟩ = some (.slice (some ⟨bb, o, none⟩) 4 uc) := by rw [← hW]; simp
  have HP := Lib.hid (show Box4 W (w.heap.size + 1) 0 0 0 0 by
    rw [← hW]
    have := Box4.new (w.alloc (.cells #[.slice (some ⟨bb, o, none⟩) 4 uc] 32)) 0 0 0 0 39
    simpa using this)
  have qz : W.heap.size = w.heap.size + 1 + 1 := by rw [← hW]; simp
  have qs : w.heap.size < W.heap.size := by omega
  have qp : w.heap.size + 1 < W.heap.size := by omega
  have hsW := hs.below hal
  have hbb : bb < W.heap.size := by omega
  obtain ⟨s0, o0, l0, k0, d0, p0, hs0, e0⟩ := hsW.hd g0
  obtain ⟨s1, o1, l1, k1, d1, p1, hs1, e1⟩ := hsW.hd g1
  obtain ⟨s2, o2, l2, k2, d2, p2, hs2, e2⟩ := hsW.hd g2
  obtain ⟨s3, o3, l3, k3, d3, p3, hs3, e3⟩ := hsW.hd g3
  obtain ⟨q0, hq0⟩ : ∃ q, s.lo = q := ⟨_, rfl⟩
  obtain ⟨q1, hq1⟩ : ∃ q, t.lo = q := ⟨_, rfl⟩
  obtain ⟨q2, hq2⟩ : ∃ q, x.lo = q := ⟨_, rfl⟩
  obtain ⟨q3, hq3⟩ : ∃ q, y.lo = q := ⟨_, rfl⟩
  rw [hq0] at e0 ⊢
  rw [hq1] at e1 ⊢
  rw [hq2] at e2 ⊢
  rw [hq3] at e3 ⊢
  have i0 : (0 : Int) < (l0 : Int) := by omega
  have i1 : (0 : Int) < (l1 : Int) := by omega
  have i2 : (0 : Int) < (l2 : Int) := by omega
  have i3 : (0 : Int) < (l3 : Int) := by omega
  clear hs hsW g0 g1 g2 g3 hq0 hq1 hq2 hq3
  go_enter Tryd.func48, Tryd.ntmps48
  go_wp2_with fail
  refine wp_region_last (fun _ w => Below W.heap.size W w) (fun a b => Below a.heap.size a b) (bof [BIs (.pointer (some ⟨w.heap.size, 0, none⟩)), BIs (.slice (some ⟨bb, o, none⟩) 4 uc), BIs (.pointer (some ⟨bb, o, none⟩)), BIs (.slice (some ⟨s0, o0, none⟩) l0 k0), BIs (.pointer (some ⟨s0, o0, none⟩)), BIs (.pointer (some ⟨s0, o0, none⟩)), BIs (.int .i64 q0), BIs (.pointer (some ⟨w.heap.size, 0, none⟩)), BIs (.slice (some ⟨bb, o, none⟩) 4 uc), BIs (.pointer (some ⟨bb, o + 1, none⟩)), BIs (.slice (some ⟨s1, o1, none⟩) l1 k1), BIs (.pointer (some ⟨s1, o1, none⟩)), BIs (.pointer (some ⟨s1, o1, none⟩)), BIs (.int .i64 q1), BIs (.pointer (some ⟨w.heap.size, 0, none⟩)), BIs (.slice (some ⟨bb, o, none⟩) 4 uc), BIs (.pointer (some ⟨bb, o + 2, none⟩)), BIs (.slice (some ⟨s2, o2, none⟩) l2 k2), BIs (.pointer (some ⟨s2, o2, none⟩)), BIs (.pointer (some ⟨s2, o2, none⟩)), BIs (.int .i64 q2), BIs (.pointer (some ⟨w.heap.size, 0, none⟩)), BIs (.slice (some ⟨bb, o, none⟩) 4 uc), BIs (.pointer (some ⟨bb, o + 3, none⟩)), BIs (.slice (some ⟨s3, o3, none⟩) l3 k3), BIs (.pointer (some ⟨s3, o3, none⟩)), BIs (.pointer (some ⟨s3, o3, none⟩)), BIs (.int .i64 q3), BIs (.agg #[.int .i64 q0, .int .i64 q1, .int .i64 q2, .int .i64 q3])]) (fun _ _ _ => True) (fun w9 => ∃ wx, Below W.heap.size W wx ∧ w9 = (((wx.setCell ⟨w.heap.size + 1, 0, none⟩ (.int .i64 q0)).setCell ⟨w.heap.size + 1, 1, none⟩ (.int .i64 q1)).setCell ⟨w.heap.size + 1, 2, none⟩ (.int .i64 q2)).setCell ⟨w.heap.size + 1, 3, none⟩ (.int .i64 q3)) 29 (by kernel_rfl) rfl (fun u => by simp only [frU, Act.put, List.setIfInBounds_toArray, List.set_cons_succ, List.set_cons_zero, Nat.zero_add, Nat.reduceAdd]; exact rfl) (by kernel_rfl) (by kernel_rfl) (fun iz wz wy vz hbz hz => bof_stb [BIs (.pointer (some ⟨w.heap.size, 0, none⟩)), BIs (.slice (some ⟨bb, o, none⟩) 4 uc), BIs (.pointer (some ⟨bb, o, none⟩)), BIs (.slice (some ⟨s0, o0, none⟩) l0 k0), BIs (.pointer (some ⟨s0, o0, none⟩)), BIs (.pointer (some ⟨s0, o0, none⟩)), BIs (.int .i64 q0), BIs (.pointer (some ⟨w.heap.size, 0, none⟩)), BIs (.slice (some ⟨bb, o, none⟩) 4 uc), BIs (.pointer (some ⟨bb, o + 1, none⟩)), BIs (.slice (some ⟨s1, o1, none⟩) l1 k1), BIs (.pointer (some ⟨s1, o1, none⟩)), BIs (.pointer (some ⟨s1, o1, none⟩)), BIs (.int .i64 q1), BIs (.pointer (some ⟨w.heap.size, 0, none⟩)), BIs (.slice (some ⟨bb, o, none⟩) 4 uc), BIs (.pointer (some ⟨bb, o + 2, none⟩)), BIs (.slice (some ⟨s2, o2, none⟩) l2 k2), BIs (.pointer (some ⟨s2, o2, none⟩)), BIs (.pointer (some ⟨s2, o2, none⟩)), BIs (.int .i64 q2), BIs (.pointer (some ⟨w.heap.size, 0, none⟩)), BIs (.slice (some ⟨bb, o, none⟩) 4 uc), BIs (.pointer (some ⟨bb, o + 3, none⟩)), BIs (.slice (some ⟨s3, o3, none⟩) l3 k3), BIs (.pointer (some ⟨s3, o3, none⟩)), BIs (.pointer (some ⟨s3, o3, none⟩)), BIs (.int .i64 q3), BIs (.agg #[.int .i64 q0, .int .i64 q1, .int .i64 q2, .int .i64 q3])] ⟨bst_is _, bst_is _, bst_is _, bst_is _, bst_is _, bst_is _, bst_is _, bst_is _, bst_is _, bst_is _, bst_is _, bst_is _, bst_is _, bst_is _, bst_is _, bst_is _, bst_is _, bst_is _, bst_is _, bst_is _, bst_is _, bst_is _, bst_is _, bst_is _, bst_is _, bst_is _, bst_is _, bst_is _, bst_is _, trivial⟩ iz wz wy vz hbz hz) ⟨rfl, rfl, rfl, Nat.le_refl _, fun _ _ => rfl⟩ ?_ ?_; (exact ⟨stSb rfl (fun u w3 hC hd Q K hK => by (go_step; exact hK _ _ rfl (Below.refl _ _) rfl)), stSb rfl (fun u w3 hC hd Q K hK => by (have hu := bis (w := w3) (hd 0 rfl); rw [hu] at hK ⊢; clear hu; have z0 := (hC.cell (p := ⟨w.heap.size, 0, none⟩) qs).trans c0; go_step; exact hK _ _ rfl (Below.refl _ _) rfl)), stSb rfl (fun u w3 hC hd Q K hK => by (have hu := bis (w := w3) (hd 1 rfl); rw [hu] at hK ⊢; clear hu; go_step; exact hK _ _ rfl (Below.refl _ _) rfl)), stSb rfl (fun u w3 hC hd Q K hK => by (have hu := bis (w := w3) (hd 2 rfl); rw [hu] at hK ⊢; clear hu; have z0 := (hC.cell (p := ⟨bb, o, none⟩) hbb).trans d0; go_step; exact hK _ _ rfl (Below.refl _ _) rfl)), stSb rfl (fun u w3 hC hd Q K hK => by (have hu := bis (w := w3) (hd 3 rfl); rw [hu] at hK ⊢; clear hu; go_step; exact hK _ _ rfl (Below.refl _ _) rfl)), stSb rfl (fun u w3 hC hd Q K hK => by (have hu := bis (w := w3) (hd 4 rfl); rw [hu] at hK ⊢; clear hu; go_step; exact hK _ _ rfl (Below.refl _ _) rfl)), stSb rfl (fun u w3 hC hd Q K hK => by (have hu := bis (w := w3) (hd 5 rfl); rw [hu] at hK ⊢; clear hu; have z0 := (hC.cell (p := ⟨s0, o0, none⟩) hs0).trans e0; go_step; exact hK _ _ rfl (Below.refl _ _) rfl)), stSb rfl (fun u w3 hC hd Q K hK => by (go_step; exact hK _ _ rfl (Below.refl _ _) rfl)), stSb rfl (fun u w3 hC hd Q K hK => by (have hu := bis (w := w3) (hd 7 rfl); rw [hu] at hK ⊢; clear hu; have z0 := (hC.cell (p := ⟨w.heap.size, 0, none⟩) qs).trans c0; go_step; exact hK _ _ rfl (Below.refl _ _) rfl)), stSb rfl (fun u w3 hC hd Q K hK => by (have hu := bis (w := w3) (hd 8 rfl); rw [hu] at hK ⊢; clear hu; go_step; exact hK _ _ rfl (Below.refl _ _) rfl)), stSb rfl (fun u w3 hC hd Q K hK => by (have hu := bis (w := w3) (hd 9 rfl); rw [hu] at hK ⊢; clear hu; have z0 := (hC.cell (p := ⟨bb, o + 1, none⟩) hbb).trans d1; go_step; exact hK _ _ rfl (Below.refl _ _) rfl)), stSb rfl (fun u w3 hC hd Q K hK => by (have hu := bis (w := w3) (hd 10 rfl); rw [hu] at hK ⊢; clear hu; go_step; exact hK _ _ rfl (Below.refl _ _) rfl)), stSb rfl (fun u w3 hC hd Q K hK => by (have hu := bis (w := w3) (hd 11 rfl); rw [hu] at hK ⊢; clear hu; go_step; exact hK _ _ rfl (Below.refl _ _) rfl)), stSb rfl (fun u w3 hC hd Q K hK => by (have hu := bis (w := w3) (hd 12 rfl); rw [hu] at hK ⊢; clear hu; have z0 := (hC.cell (p := ⟨s1, o1, none⟩) hs1).trans e1; go_step; exact hK _ _ rfl (Below.refl _ _) rfl)), stSb rfl (fun u w3 hC hd Q K hK => by (go_step; exact hK _ _ rfl (Below.refl _ _) rfl)), stSb rfl (fun u w3 hC hd Q K hK => by (have hu := bis (w := w3) (hd 14 rfl); rw [hu] at hK ⊢; clear hu; have z0 := (hC.cell (p := ⟨w.heap.size, 0, none⟩) qs).trans c0; go_step; exact hK _ _ rfl (Below.refl _ _) rfl)), stSb rfl (fun u w3 hC hd Q K hK => by (have hu := bis (w := w3) (hd 15 rfl); rw [hu] at hK ⊢; clear hu; go_step; exact hK _ _ rfl (Below.refl _ _) rfl)), stSb rfl (fun u w3 hC hd Q K hK => by (have hu := bis (w := w3) (hd 16 rfl); rw [hu] at hK ⊢; clear hu; have z0 := (hC.cell (p := ⟨bb, o + 2, none⟩) hbb).trans d2; go_step; exact hK _ _ rfl (Below.refl _ _) rfl)), stSb rfl (fun u w3 hC hd Q K hK => by (have hu := bis (w := w3) (hd 17 rfl); rw [hu] at hK ⊢; clear hu; go_step; exact hK _ _ rfl (Below.refl _ _) rfl)), stSb rfl (fun u w3 hC hd Q K hK => by (have hu := bis (w := w3) (hd 18 rfl); rw [hu] at hK ⊢; clear hu; go_step; exact hK _ _ rfl (Below.refl _ _) rfl)), stSb rfl (fun u w3 hC hd Q K hK => by (have hu := bis (w := w3) (hd 19 rfl); rw [hu] at hK ⊢; clear hu; have z0 := (hC.cell (p := ⟨s2, o2, none⟩) hs2).trans e2; go_step; exact hK _ _ rfl (Below.refl _ _) rfl)), stSb rfl (fun u w3 hC hd Q K hK => by (go_step; exact hK _ _ rfl (Below.refl _ _) rfl)), stSb rfl (fun u w3 hC hd Q K hK => by (have hu := bis (w := w3) (hd 21 rfl); rw [hu] at hK ⊢; clear hu; have z0 := (hC.cell (p := ⟨w.heap.size, 0, none⟩) qs).trans c0; go_step; exact hK _ _ rfl (Below.refl _ _) rfl)), stSb rfl (fun u w3 hC hd Q K hK => by (have hu := bis (w := w3) (hd 22 rfl); rw [hu] at hK ⊢; clear hu; go_step; exact hK _ _ rfl (Below.refl _ _) rfl)), stSb rfl (fun u w3 hC hd Q K hK => by (have hu := bis (w := w3) (hd 23 rfl); rw [hu] at hK ⊢; clear hu; have z0 := (hC.cell (p := ⟨bb, o + 3, none⟩) hbb).trans d3; go_step; exact hK _ _ rfl (Below.refl _ _) rfl)), stSb rfl (fun u w3 hC hd Q K hK => by (have hu := bis (w := w3) (hd 24 rfl); rw [hu] at hK ⊢; clear hu; go_step; exact hK _ _ rfl (Below.refl _ _) rfl)), stSb rfl (fun u w3 hC hd Q K hK => by (have hu := bis (w := w3) (hd 25 rfl); rw [hu] at hK ⊢; clear hu; go_step; exact hK _ _ rfl (Below.refl _ _) rfl)), stSb rfl (fun u w3 hC hd Q K hK => by (have hu := bis (w := w3) (hd 26 rfl); rw [hu] at hK ⊢; clear hu; have z0 := (hC.cell (p := ⟨s3, o3, none⟩) hs3).trans e3; go_step; exact hK _ _ rfl (Below.refl _ _) rfl)), stSb rfl (fun u w3 hC hd Q K hK => by (have hu := bis (w := w3) (hd 6 rfl); rw [hu] at hK ⊢; clear hu; have hu := bis (w := w3) (hd 13 rfl); rw [hu] at hK ⊢; clear hu; have hu := bis (w := w3) (hd 20 rfl); rw [hu] at hK ⊢; clear hu; have hu := bis (w := w3) (hd 27 rfl); rw [hu] at hK ⊢; clear hu; go_step; exact hK _ _ rfl (Below.refl _ _) rfl)), ⟨rfl, fun m u w3 hm hC hF Q K hK => by (dsimp only at hK ⊢; have hu := bis (w := w3) (hF 28 (by decide)); rw [hu] at hK ⊢; clear hu; have z0 := (hC.cell (p := ⟨w.heap.size + 1, 0, none⟩) qp).trans HP.out.c0; have z1 := (hC.cell (p := ⟨w.heap.size + 1, 1, none⟩) qp).trans HP.out.c1; have z2 := (hC.cell (p := ⟨w.heap.size + 1, 2, none⟩) qp).trans HP.out.c2; have z3 := (hC.cell (p := ⟨w.heap.size + 1, 3, none⟩) qp).trans HP.out.c3; have y0 := (hC.frozen (p := ⟨w.heap.size + 1, 0, none⟩) qp).trans (HP.out.frz 0); have y1 := (hC.frozen (p := ⟨w.heap.size + 1, 1, none⟩) qp).trans (HP.out.frz 1); have y2 := (hC.frozen (p := ⟨w.heap.size + 1, 2, none⟩) qp).trans (HP.out.frz 2); have y3 := (hC.frozen (p := ⟨w.heap.size + 1, 3, none⟩) qp).trans (HP.out.frz 3);  go_step; exact hK _ _ rfl ⟨w3, hC, rfl⟩ (fun _ _ => trivial))⟩⟩); intro u w9 hD _
  obtain ⟨wx, hbx, rfl⟩ := hD
  have HPW := Lib.hid (Box4.bel HP.out hbx)
  have HPF := Lib.hid (Box4.sets HPW.out q0 q1 q2 q3)
  obtain ⟨k1, k2, k3, k4, k5, k6⟩ := id HPF.out
  have hwx := hal.trans (hbx.mono hal.size)
  have hB : w.heap.size ≤ w.heap.size + 1 := by omega
  have hwS := (((hwx.setCell (p := ⟨w.heap.size + 1, 0, none⟩) hB (.int .i64 q0)).setCell (p := ⟨w.heap.size + 1, 1, none⟩) hB (.int .i64 q1)).setCell (p := ⟨w.heap.size + 1, 2, none⟩) hB (.int .i64 q2)).setCell (p := ⟨w.heap.size + 1, 3, none⟩) hB (.int .i64 q3)
  clear k6
  go_wp2_with fail
  refine bodyPost_ret (v := .agg #[.int .i64 q0, .int .i64 q1, .int .i64 q2, .int .i64 q3]) ?_ rfl ⟨rfl, hwS⟩
  simp [results, Tryd.results48, go_sem, k2, k3, k4, k5]
theorem first_head {a b : Bx} (ha : bvalid a = true) (hb : bvalid b = true) (he : bempty (bmeet a b) = false) {n : Nat} (hn : n < 4) : ∃ s ss, (bmeet a b)[n]? = some (s :: ss) ∧ s.lo = fcv a b n := by
  have la := (bvalid_iff.1 ha).1
  have lb := (bvalid_iff.1 hb).1
  obtain ⟨x, hx, -⟩ := bvalid_get ha hn
  obtain ⟨y, hy, -⟩ := bvalid_get hb hn
  have hm : (bmeet a b)[n]? = some (smeet x y) := by unfold bmeet; rw [List.getElem?_zipWith, hx, hy]
  have h1 := (bempty_iff (bmeet_len la lb)).1 he n hn
  rw [getD_get hm] at h1
  rw [fcv_at hx hy]
  unfold fcommon
  cases e : smeet x y with
  | nil => rw [e] at h1; cases h1
  | cons s ss => exact ⟨s, ss, by rw [hm, e], rfl⟩
theorem l10First_r {lo : Nat} {a b : Bx} {u : Value} {w : World} {q0 q1 q2 q3 : Int} (h : bcom a b = some ⟨q0, q1, q2, q3⟩) (ha : bvalid a = true) (hb : bvalid b = true) (hs : Rws lo w u (bmeet a b)) :
    Calls Tryd.prog 48 #[.agg #[u]] w fun e w' => e = .returned (.agg #[.int .i64 q0, .int .i64 q1, .int .i64 q2, .int .i64 q3]) ∧ Below w.heap.size w w' := by
  have he : bempty (bmeet a b) = false := by
    have := bcom_isSome a b
    rw [h] at this
    simpa using this.symm
  unfold bcom at h
  rw [if_neg (by rw [he]; exact Bool.false_ne_true)] at h
  obtain ⟨e0, e1, e2, e3⟩ := Pk.mk.inj (Option.some.inj h)
  refine l10First_any hs (bmeet_len (bvalid_iff.1 ha).1 (bvalid_iff.1 hb).1) ?_ ?_ ?_ ?_
  · rw [← e0]; exact first_head ha hb he (by omega)
  · rw [← e1]; exact first_head ha hb he (by omega)
  · rw [← e2]; exact first_head ha hb he (by omega)
  · rw [← e3]; exact first_head ha hb he (by omega)
-- MADE2 --
/-- What pass p finds. -/
def tpass (fs : List Ft) (r : Bool) (gs : List Ft) (c : Bool) (p : Nat) : Option Pk := ftouch (fpart fs r (decide (p = 0))) (fpart gs c (decide (p = 1)))
def TpI (fs : List Ft) (r : Bool) (gs : List Ft) (c : Bool) (p : Nat) : Prop := ∀ i, i < p → (fparts fs r).isSome = true ∧ (fparts gs c).isSome = true ∧ tpass fs r gs c i = none
theorem TpI.step {fs gs : List Ft} {r c : Bool} {p : Nat} (h : TpI fs r gs c p) (h1 : (fparts fs r).isSome = true) (h2 : (fparts gs c).isSome = true) (h3 : tpass fs r gs c p = none) : TpI fs r gs c (p + 1) := fun i hi => by
  rcases Nat.lt_or_ge i p with h4 | h4
  · exact h i h4
  · rw [show i = p by omega]; exact ⟨h1, h2, h3⟩
theorem TpI.hit {fs gs : List Ft} {r c : Bool} {p : Nat} (h : TpI fs r gs c p) (h1 : (fparts fs r).isSome = true) (h2 : (fparts gs c).isSome = true) (hp : p < 2) {P : Pk} (h3 : tpass fs r gs c p = some P) : fdif fs r gs c = some P := by
  obtain ⟨x, hx⟩ := Option.isSome_iff_exists.1 h1
  obtain ⟨y, hy⟩ := Option.isSome_iff_exists.1 h2
  rw [fdif_wit hx hy]
  unfold fwit
  rcases (by omega : p = 0 ∨ p = 1) with rfl | rfl
  · unfold tpass at h3
    rw [fpart_yes hx, fpart_yes hy] at h3
    rw [show ftouch (psel x true) (psel y false) = some P from h3]
  · have h4 := (h 0 (by omega)).2.2
    unfold tpass at h3 h4
    rw [fpart_yes hx, fpart_yes hy] at h3 h4
    rw [show ftouch (psel x true) (psel y false) = none from h4]
    exact h3
theorem TpI.both {fs gs : List Ft} {r c : Bool} (h : TpI fs r gs c 2) : fdif fs r gs c = none := by
  obtain ⟨h1, h2, h3⟩ := h 0 (by omega)
  obtain ⟨-, -, h4⟩ := h 1 (by omega)
  obtain ⟨x, hx⟩ := Option.isSome_iff_exists.1 h1
  obtain ⟨y, hy⟩ := Option.isSome_iff_exists.1 h2
  unfold tpass at h3 h4
  rw [fpart_yes hx, fpart_yes hy] at h3 h4
  rw [fdif_wit hx hy]
  unfold fwit
  rw [show ftouch (psel x true) (psel y false) = none from h3]
  exact h4
set_option maxHeartbeats 8000000 in
set_option maxRecDepth 100000 in
theorem specFirstDiffer_e {lo lo' : Nat} {fs gs : List Ft} {r c q : Bool} {u v : Value} {w : World} {p1 p2 p3 p4 : Int} (hs : Fts lo w u fs) (hu : Fts lo' w v gs) (hN : ftN fs ≤ 1048576) (hN2 : ftN gs ≤ 1048576) (h : fdifP fs r gs c = ⟨p1, p2, p3, p4⟩) (hq : (fdif fs r gs c).isSome = q) :
    Calls Tryd.prog 16 #[u, .bool r, v, .bool c] w fun e w' => e = .returned (.tuple #[.agg #[.int .i64 p1, .int .i64 p2, .int .i64 p3, .int .i64 p4], .bool q]) ∧ Below w.heap.size w w' := by
  have HR := Lib.hid h
  have HQ := Lib.hid hq
  have HZ := Lib.hid (fun (hn : fdif fs r gs c = none) => (show p1 = 0 ∧ p2 = 0 ∧ p3 = 0 ∧ p4 = 0 ∧ q = false from by
    have h1 := HR.out
    unfold fdifP at h1
    rw [hn] at h1
    obtain ⟨e1, e2, e3, e4⟩ := Pk.mk.inj h1
    exact ⟨e1.symm, e2.symm, e3.symm, e4.symm, by rw [← HQ.out, hn]; rfl⟩))
  have HW := Lib.hid (fun (P : Pk) (hn : fdif fs r gs c = some P) => (show P = ⟨p1, p2, p3, p4⟩ ∧ q = true from by
    have h1 := HR.out
    unfold fdifP at h1
    rw [hn] at h1
    exact ⟨h1, by rw [← HQ.out, hn]; rfl⟩))
  obtain ⟨W, hW⟩ : ∃ W, w.alloc (.cells #[.int .i64 0, .int .i64 0, .int .i64 0, .int .i64 0] 39) = W := ⟨_, rfl⟩
  have hal : Below w.heap.size w W := by rw [← hW]; exact (Below.refl _ _).alloc (Nat.le_refl _) _
  have HP := Lib.hid (show Box4 W w.heap.size 0 0 0 0 by rw [← hW]; exact Box4.new w 0 0 0 0 _)
  have HS := Lib.hid (hs.below hal)
  have HU := Lib.hid (hu.below hal)
  have HNN := Lib.hid (And.intro hN hN2)
  have hqz : w.heap.size ≤ W.heap.size := hal.size
  obtain ⟨qx, hqx⟩ : ∃ b, (fparts fs r).isSome = b := ⟨_, rfl⟩
  obtain ⟨qy, hqy⟩ : ∃ b, (fparts gs c).isSome = b := ⟨_, rfl⟩
  have HQX := Lib.hid hqx
  have HQY := Lib.hid hqy
  clear h hq hs hu hN hN2 hqx hqy
  go_enter Tryd.func16, Tryd.ntmps16
  go_wp2_with fail
  go_loopw [10, 11, 12, 13, 14, 15, 16, 17] (fun i _ _ _ _ _ _ _ wr => ∃ p : Nat, p ≤ 2 ∧ i = .int .i64 p ∧ Hid (TpI fs r gs c p) ∧ Below W.heap.size W wr) (fun i _ _ _ _ _ _ _ _ => 2 - (intOf i).toNat)
  case atStart => exact ⟨0, by omega, rfl, Lib.hid (fun i h => by omega), Below.refl _ _⟩
  case round =>
    clear hW
    obtain ⟨p, hp, rfl, HI, hbr⟩ := hrel
    generalize wr = wo at *
    have hwr := hal.trans (hbr.mono hal.size)
    by_cases hlt : p < 2
    · have i1 : (p : Int) < 2 := by omega
      have hb0 : (((p : Int) == 0)) = decide (p = 0) := by rw [Bool.eq_iff_iff]; simp
      have hb1 : (((p : Int) == 1)) = decide (p = 1) := by rw [Bool.eq_iff_iff]; simp; omega
      obtain ⟨A, hA⟩ : ∃ A, fpart fs r (decide (p = 0)) = A := ⟨_, rfl⟩
      obtain ⟨B, hB⟩ : ∃ B, fpart gs c (decide (p = 1)) = B := ⟨_, rfl⟩
      have HTP := Lib.hid (show tpass fs r gs c p = ftouch A B by unfold tpass; rw [hA, hB])
      have HAV := Lib.hid (show BV2 A by rw [← hA]; exact (fpart_good fs r _).1)
      have HBV := Lib.hid (show BV2 B by rw [← hB]; exact (fpart_good gs c _).1)
      have HA := Lib.hid hA
      have HB := Lib.hid hB
      generalize decide (p = 0) = bp at *
      generalize decide (p = 1) = bq at *
      clear hA hB
      go_wp2_with fail
      refine (specFlatParts_e (HS.out.below hbr) HNN.out.1 HA.out HQX.out).mono ?_
      rintro e w1 ⟨z1, rfl, ho1, hbb1⟩
      have hbz1 := hbr.trans (hbb1.mono hbr.size)
      have HX1 := Lib.hid ho1
      clear ho1
      go_wp2_with fail
      refine (specFlatParts_e (HU.out.below hbz1) HNN.out.2 HB.out HQY.out).mono ?_
      rintro e w2 ⟨z2, rfl, ho2, hbb2⟩
      have hbz2 := hbz1.trans (hbb2.mono hbz1.size)
      have hwz2 := hal.trans (hbz2.mono hal.size)
      have HX := Lib.hid (HX1.out.below hbb2)
      have HY := Lib.hid ho2
      obtain ⟨xa, xc, rfl, -, -⟩ := HX.out.form
      obtain ⟨ya, yc, rfl, -, -⟩ := HY.out.form
      obtain ⟨n, hn⟩ : ∃ n, A.length = n := ⟨_, rfl⟩
      obtain ⟨m, hm⟩ : ∃ m, B.length = m := ⟨_, rfl⟩
      have HNA := Lib.hid hn
      have HMB := Lib.hid hm
      rw [hn] at HX ⊢
      rw [hm] at HY ⊢
      have hn4 : n ≤ 400 := by rw [← hn, ← HA.out]; exact (fpart_good fs r _).2
      have hm4 : m ≤ 400 := by rw [← hm, ← HB.out]; exact (fpart_good gs c _).2
      clear ho2 hbb1 hbb2 HX1 hn hm hbr hbz1 hwr hb0 hb1
      by_cases hqq : qx = true ∧ qy = true
      · obtain ⟨rfl, rfl⟩ := hqq
        go_wp2_with fail
        go_loopw [15, 16, 17] (fun i _ _ wr => ∃ k : Nat, k ≤ n ∧ i = .int .i64 k ∧ Hid (ftouch (A.take k) B = none) ∧ Below w2.heap.size w2 wr) (fun i _ _ _ => n - (intOf i).toNat)
        case atStart => exact ⟨0, by omega, rfl, Lib.hid rfl, Below.refl _ _⟩
        case round =>
          obtain ⟨k, hk, rfl, HK, hbm⟩ := hrel
          generalize wr = wm at *
          by_cases hkt : k < n
          · have j1 : (k : Int) < (n : Int) := by omega
            have j2 : (0 : Int) ≤ (k : Int) := by omega
            obtain ⟨f, hf⟩ : ∃ f, A[k]? = some f := ⟨_, List.getElem?_eq_getElem (by rw [HNA.out]; exact hkt)⟩
            have HF := Lib.hid hf
            have HFV := Lib.hid (HAV.out f (List.mem_of_getElem? hf))
            clear hf
            go_wp2_with fail
            go_loopw [16, 17] (fun i _ wr => ∃ j : Nat, j ≤ m ∧ i = .int .i64 j ∧ Hid ((B.take j).findSome? (bcom f) = none) ∧ Below w2.heap.size w2 wr) (fun i _ _ => m - (intOf i).toNat)
            case atStart => exact ⟨0, by omega, rfl, Lib.hid rfl, hbm⟩
            case round =>
              obtain ⟨j, hj, rfl, HJ, hbX⟩ := hrel
              by_cases hjt : j < m
              · have j3 : (j : Int) < (m : Int) := by omega
                have j4 : (0 : Int) ≤ (j : Int) := by omega
                obtain ⟨g, hy⟩ : ∃ g, B[j]? = some g := ⟨_, List.getElem?_eq_getElem (by rw [HMB.out]; exact hjt)⟩
                obtain ⟨b1, o1, sv, rfl, hb1l, d1, hsv⟩ := (HX.out.below hbX).at HF.out
                obtain ⟨b2, o2, tv, rfl, hb2l, d2, htv⟩ := (HY.out.below hbX).at hy
                have HSF := Lib.hid hsv
                have HSG := Lib.hid htv
                have HG := Lib.hid hy
                have HGV := Lib.hid (HBV.out g (List.mem_of_getElem? hy))
                obtain ⟨M, hM⟩ : ∃ M, bmeet f g = M := ⟨_, rfl⟩
                have HM := Lib.hid hM
                have HLN := Lib.hid (show M = [] ∨ 2 ≤ M.length from .inr (by rw [← hM, bmeet_len (bvalid_iff.1 HFV.out).1 (bvalid_iff.1 HGV.out).1]; omega))
                have HCS := Lib.hid (show (bcom f g).isSome = !bempty M by rw [← hM]; exact bcom_isSome f g)
                clear hy hsv htv hM
                go_wp2_with fail
                refine wp_region_turn2 (W := wr) 10 [BIs (.slice (some ⟨b1, o1, none⟩) n xc), BIs (.int .i64 (k : Int)), BIs (.pointer (some ⟨b1, o1 + k, none⟩)), BIs (.agg #[sv]), BIs (.slice (some ⟨b2, o2, none⟩) m yc), BIs (.int .i64 (j : Int)), BIs (.pointer (some ⟨b2, o2 + j, none⟩)), BIs (.agg #[tv]), (fun w v => ∃ z, v = .agg #[z] ∧ Rws 0 w z M), (BP wr)] (bof [BIs (.slice (some ⟨b1, o1, none⟩) n xc), BIs (.int .i64 (k : Int)), BIs (.pointer (some ⟨b1, o1 + k, none⟩)), BIs (.agg #[sv]), BIs (.slice (some ⟨b2, o2, none⟩) m yc), BIs (.int .i64 (j : Int)), BIs (.pointer (some ⟨b2, o2 + j, none⟩)), BIs (.agg #[tv]), (fun _ _ => True), (BQ M wr), (fun _ _ => True)]) (by kernel_rfl) (by decide) (fun u => by simp only [frU, Act.put, List.setIfInBounds_toArray, List.set_cons_succ, List.set_cons_zero, Nat.zero_add, Nat.reduceAdd]; exact rfl) (by kernel_rfl) ⟨bst_is _, bst_is _, bst_is _, bst_is _, bst_is _, bst_is _, bst_is _, bst_is _, (fun _ _ _ hb ⟨z, h1, h2⟩ => ⟨z, h1, h2.below hb⟩), (bst_bp _), trivial⟩ ?_ ?_; (exact ⟨stT rfl (by decide) (by kernel_rfl) (fun u w3 hC hd hI Q K hK => by (go_step; exact hK _ _ rfl (Below.refl _ _) rfl)), stT rfl (by decide) (by kernel_rfl) (fun u w3 hC hd hI Q K hK => by (go_step; exact hK _ _ rfl (Below.refl _ _) rfl)), stT rfl (by decide) (by kernel_rfl) (fun u w3 hC hd hI Q K hK => by (have hu := bis (w := w3) (hd 0 rfl); rw [hu] at hK ⊢; clear hu; have hu := bis (w := w3) (hd 1 rfl); rw [hu] at hK ⊢; clear hu; go_step; exact hK _ _ rfl (Below.refl _ _) rfl)), stT rfl (by decide) (by kernel_rfl) (fun u w3 hC hd hI Q K hK => by (have hu := bis (w := w3) (hd 2 rfl); rw [hu] at hK ⊢; clear hu; have z0 := (hC.cell (p := ⟨b1, o1 + k, none⟩) hb1l).trans d1; go_step; exact hK _ _ rfl (Below.refl _ _) rfl)), stT rfl (by decide) (by kernel_rfl) (fun u w3 hC hd hI Q K hK => by (go_step; exact hK _ _ rfl (Below.refl _ _) rfl)), stT rfl (by decide) (by kernel_rfl) (fun u w3 hC hd hI Q K hK => by (go_step; exact hK _ _ rfl (Below.refl _ _) rfl)), stT rfl (by decide) (by kernel_rfl) (fun u w3 hC hd hI Q K hK => by (have hu := bis (w := w3) (hd 4 rfl); rw [hu] at hK ⊢; clear hu; have hu := bis (w := w3) (hd 5 rfl); rw [hu] at hK ⊢; clear hu; go_step; exact hK _ _ rfl (Below.refl _ _) rfl)), stT rfl (by decide) (by kernel_rfl) (fun u w3 hC hd hI Q K hK => by (have hu := bis (w := w3) (hd 6 rfl); rw [hu] at hK ⊢; clear hu; have z0 := (hC.cell (p := ⟨b2, o2 + j, none⟩) hb2l).trans d2; go_step; exact hK _ _ rfl (Below.refl _ _) rfl)), stT rfl (by decide) (by kernel_rfl) (fun u w3 hC hd hI Q K hK => by (have hu := bis (w := w3) (hd 3 rfl); rw [hu] at hK ⊢; clear hu; have hu := bis (w := w3) (hd 7 rfl); rw [hu] at hK ⊢; clear hu; go_step; refine (l10Meet_e (HSF.out.below hC) (HSG.out.below hC) HFV.out HGV.out HM.out).mono ?_; rintro e w4 ⟨z4, rfl, ho4, hb4⟩; exact hK _ _ rfl hb4 ⟨z4, rfl, ho4⟩)), stT rfl (by decide) (by kernel_rfl) (fun u w3 hC hd hI Q K hK => by (go_step; exact hK _ _ rfl ((Below.refl _ _).alloc (Nat.le_refl _) _) (BP.new _ hC.size))), stTt rfl (by decide) (fun u w3 hC hd Q K hK => by (dsimp only at hK ⊢; obtain ⟨qq, hu, hq1, hq2, hqf, hqo⟩ := hd 9 rfl; rw [hu] at hK ⊢; have hkeep := hu; clear hu; obtain ⟨z, hu, hz⟩ := hd 8 rfl; rw [hu] at hK ⊢; clear hu; have e0 := hqf 0; have e1 := hqo.1; obtain ⟨a0, c0, rfl, -, -⟩ := hz.form; go_step; have hQ := BQ.mk1 hC hq1 hq2 hqf hqo HLN.out hz; refine hK _ _ rfl (fun j hj h => ?_) ?_; (match j, hj, h with | 0, _, h => exact h | 1, _, h => exact h | 2, _, h => exact h | 3, _, h => exact h | 4, _, h => exact h | 5, _, h => exact h | 6, _, h => exact h | 7, _, h => exact h | 8, _, _ => exact trivial | 9, _, h => exact (show BQ M wr _ _ by rw [hkeep]; exact hQ) | j + 10, hj, _ => exact absurd hj (by omega)); exact trivial)), trivial⟩); intro u w3 hF; rw [bis (w := w3) (hF 0 (by decide))]; rw [bis (w := w3) (hF 1 (by decide))]; rw [bis (w := w3) (hF 2 (by decide))]; rw [bis (w := w3) (hF 3 (by decide))]; rw [bis (w := w3) (hF 4 (by decide))]; rw [bis (w := w3) (hF 5 (by decide))]; rw [bis (w := w3) (hF 6 (by decide))]; rw [bis (w := w3) (hF 7 (by decide))]; have h8 := hF 9 (by decide); generalize u 9 = v8 at *; generalize u 8 = vx8 at *; generalize u 10 = vx10 at *; clear hF
                obtain ⟨q9, a9, n9, p9, rfl, hq1, hq2, g0, gf, hr3, hb3⟩ := h8
                have HR3 := Lib.hid hr3
                have hz3 := hb3.size
                have hB3 := hbX.trans (hb3.mono hbX.size)
                obtain ⟨em, hem⟩ : ∃ em, bempty M = em := ⟨_, rfl⟩
                have HEM := Lib.hid hem
                clear hr3 d1 d2
                go_wp2_with fail
                refine (l10Empty_b HR3.out hem).mono ?_
                rintro e w4 ⟨rfl, hb4⟩
                have hB4 := hB3.trans (hb4.mono hB3.size)
                have HR4 := Lib.hid (HR3.out.below hb4)
                have k0 := (hb4.cell (p := ⟨q9, 0, none⟩) hq2).trans g0
                clear hem hb4 g0 gf
                cases em
                · obtain ⟨⟨q0, q1, q2, q3⟩, hP⟩ : ∃ P, bcom f g = some P := Option.isSome_iff_exists.1 (by rw [HCS.out, HEM.out]; rfl)
                  obtain ⟨hPP, rfl⟩ := HW.out _ (HI.out.hit HQX.out HQY.out hlt (HTP.out.trans (ftouch_hit HF.out HK.out (findSome_hit HG.out HJ.out hP))))
                  obtain ⟨rfl, rfl, rfl, rfl⟩ := Pk.mk.inj hPP
                  have HPB := Lib.hid hP
                  clear hP hPP
                  go_wp2_with fail
                  refine (l10First_r HPB.out HFV.out HGV.out (by rw [HM.out]; exact HR4.out)).mono ?_
                  rintro e w5 ⟨rfl, hb5⟩
                  have hB5 := hB4.trans (hb5.mono hB4.size)
                  have hW5 := hbz2.trans (hB5.mono hbz2.size)
                  have hw5 := hal.trans (hW5.mono hal.size)
                  have HPW := Lib.hid (Box4.bel HP.out hW5)
                  obtain ⟨s1, s2, s3, s4, s5, s6⟩ := id HPW.out
                  have s60 := s6 0
                  have s61 := s6 1
                  have s62 := s6 2
                  have s63 := s6 3
                  have HPF := Lib.hid (Box4.sets HPW.out q0 q1 q2 q3)
                  obtain ⟨k1, k2, k3, k4, k5, k6⟩ := id HPF.out
                  have hwS := (((hw5.setCell (p := ⟨w.heap.size, 0, none⟩) (Nat.le_refl _) (.int .i64 q0)).setCell (p := ⟨w.heap.size, 1, none⟩) (Nat.le_refl _) (.int .i64 q1)).setCell (p := ⟨w.heap.size, 2, none⟩) (Nat.le_refl _) (.int .i64 q2)).setCell (p := ⟨w.heap.size, 3, none⟩) (Nat.le_refl _) (.int .i64 q3)
                  clear s6 k6 HPW
                  go_wp2
                  refine bodyPost_ret (v := .tuple #[.agg #[.int .i64 q0, .int .i64 q1, .int .i64 q2, .int .i64 q3], .bool true]) ?_ rfl ⟨rfl, hwS⟩
                  simp [results, Tryd.results16, go_sem, k2, k3, k4, k5]
                · have HJ2 := Lib.hid (findSome_succ HG.out HJ.out (by have h1 := HCS.out; rw [HEM.out] at h1; cases e : bcom f g with | none => rfl | some P => rw [e] at h1; cases h1))
                  go_wp2
                  go_roundw
                  case rel => exact ⟨j + 1, by omega, by go_num, HJ2, hB4⟩
                  case measure => simp [intOf]; omega
              · have HJ2 := Lib.hid (ftouch_none_succ HF.out HK.out (by have := HJ.out; rwa [List.take_of_length_le (by rw [HMB.out]; omega)] at this))
                go_wp2
                go_roundw
                case rel => exact ⟨k + 1, by omega, by go_num, HJ2, hbX⟩
                case measure => simp [intOf]; omega
          · have HI2 := Lib.hid (HI.out.step HQX.out HQY.out (by rw [HTP.out]; have := HK.out; rwa [List.take_of_length_le (by rw [HNA.out]; omega)] at this))
            have hbF := hbz2.trans (hbm.mono hbz2.size)
            go_wp2
            go_roundw
            case rel => exact ⟨p + 1, by omega, by go_num, HI2, hbF⟩
            case measure => simp [intOf]; omega
      · have hn0 : fdif fs r gs c = none := by
          have h1 := HQX.out
          have h2 := HQY.out
          cases qx
          · exact fdif_no (.inl (Option.not_isSome_iff_eq_none.1 (by rw [h1]; simp)))
          · cases qy
            · exact fdif_no (.inr (Option.not_isSome_iff_eq_none.1 (by rw [h2]; simp)))
            · exact absurd ⟨rfl, rfl⟩ hqq
        obtain ⟨rfl, rfl, rfl, rfl, rfl⟩ := HZ.out hn0
        have HPW := Lib.hid (Box4.bel HP.out hbz2)
        obtain ⟨s1, s2, s3, s4, s5, s6⟩ := id HPW.out
        have s60 := s6 0
        have s61 := s6 1
        have s62 := s6 2
        have s63 := s6 3
        have HPF := Lib.hid (Box4.sets HPW.out 0 0 0 0)
        obtain ⟨k1, k2, k3, k4, k5, k6⟩ := id HPF.out
        have hwS := (((hwz2.setCell (p := ⟨w.heap.size, 0, none⟩) (Nat.le_refl _) (.int .i64 0)).setCell (p := ⟨w.heap.size, 1, none⟩) (Nat.le_refl _) (.int .i64 0)).setCell (p := ⟨w.heap.size, 2, none⟩) (Nat.le_refl _) (.int .i64 0)).setCell (p := ⟨w.heap.size, 3, none⟩) (Nat.le_refl _) (.int .i64 0)
        clear s6 k6 HPW hn0
        cases qx <;> cases qy <;> first | exact absurd ⟨rfl, rfl⟩ hqq | (clear hqq; go_wp2; refine bodyPost_ret (v := .tuple #[.agg #[.int .i64 0, .int .i64 0, .int .i64 0, .int .i64 0], .bool false]) ?_ rfl ⟨rfl, hwS⟩; simp [results, Tryd.results16, go_sem, k2, k3, k4, k5])
    · have hp2 : p = 2 := by omega
      have hn0 : fdif fs r gs c = none := by have h1 := HI.out; rw [hp2] at h1; exact h1.both
      obtain ⟨rfl, rfl, rfl, rfl, rfl⟩ := HZ.out hn0
      have i1 : ¬ ((p : Int) < 2) := by omega
      have HPW := Lib.hid (Box4.bel HP.out hbr)
      obtain ⟨s1, s2, s3, s4, s5, s6⟩ := id HPW.out
      have s60 := s6 0
      have s61 := s6 1
      have s62 := s6 2
      have s63 := s6 3
      have HPF := Lib.hid (Box4.sets HPW.out 0 0 0 0)
      obtain ⟨k1, k2, k3, k4, k5, k6⟩ := id HPF.out
      have hwS := (((hwr.setCell (p := ⟨w.heap.size, 0, none⟩) (Nat.le_refl _) (.int .i64 0)).setCell (p := ⟨w.heap.size, 1, none⟩) (Nat.le_refl _) (.int .i64 0)).setCell (p := ⟨w.heap.size, 2, none⟩) (Nat.le_refl _) (.int .i64 0)).setCell (p := ⟨w.heap.size, 3, none⟩) (Nat.le_refl _) (.int .i64 0)
      clear s6 k6 HPW hn0 hp2 hlt
      go_wp2
      refine bodyPost_ret (v := .tuple #[.agg #[.int .i64 0, .int .i64 0, .int .i64 0, .int .i64 0], .bool false]) ?_ rfl ⟨rfl, hwS⟩
      simp [results, Tryd.results16, go_sem, k2, k3, k4, k5]
end Go.Proofs.YtajcogpfmpehkaaDoor
