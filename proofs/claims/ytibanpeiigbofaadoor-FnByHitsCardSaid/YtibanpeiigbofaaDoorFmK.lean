/- Which rule decides: the program's walk. -/
import Derived.Test.YtibanpeiigbofaaDoorFmZ
import Derived.Test.YtibanpeiigbofaaDoorRgX
namespace Go.Proofs.YtibanpeiigbofaaDoor
open Go.RowKit
theorem fvalid_len {fs : List Ft} (h : fvalid fs = true) : fs.length ≤ 1000000 := by
  unfold fvalid at h
  rw [Bool.and_eq_true] at h
  have := h.1
  simp at this
  omega
theorem fvalid_four {fs : List Ft} (h : fvalid fs = true) (k : Nat) (f : Ft) (hx : fs[k]? = some f) : f.box.length = 4 := (bvalid_four (fvalid_at h hx)).1
theorem firstWith_b {lo : Nat} {fs : List Ft} {v : Value} {p1 p2 p3 p4 : Int} {w : World} {r : Int} (hs : Ifs lo w v fs) (h : fwith fs ⟨p1, p2, p3, p4⟩ 0 = r) :
    Calls Tryd.prog 104 #[v, .agg #[.int .i64 p1, .int .i64 p2, .int .i64 p3, .int .i64 p4]] w
      fun e w' => e = .returned (.int .i64 r) ∧ Below w.heap.size w w' := by
  subst h
  exact firstWith_any fs v p1 p2 p3 p4 w hs
set_option maxHeartbeats 2000000 in
theorem implDB_any {lo : Nat} (fs : List Ft) (v : Value) (p1 p2 p3 p4 : Int) (w : World) (hs : Fts lo w v fs) (ht : Tab w) :
    Calls Tryd.prog 61 #[v, .agg #[.int .i64 p1, .int .i64 p2, .int .i64 p3, .int .i64 p4]] w fun e w' => e = .returned (.int .i64 (dby fs ⟨p1, p2, p3, p4⟩)) ∧ Below w.heap.size w w' := by
  have hal : Below w.heap.size w (w.alloc (.cells #[.int .i64 p1, .int .i64 p2, .int .i64 p3, .int .i64 p4] 39)) := (Below.refl _ _).alloc (Nat.le_refl _) _
  obtain ⟨W, hW⟩ : ∃ W, w.alloc (.cells #[.int .i64 p1, .int .i64 p2, .int .i64 p3, .int .i64 p4] 39) = W := ⟨_, rfl⟩
  have r0 : W.cell? ⟨w.heap.size, 0, none⟩ = some (.int .i64 p1) := by rw [← hW]; simp
  have r1 : W.cell? ⟨w.heap.size, 1, none⟩ = some (.int .i64 p2) := by rw [← hW]; simp
  have r2 : W.cell? ⟨w.heap.size, 2, none⟩ = some (.int .i64 p3) := by rw [← hW]; simp
  have r3 : W.cell? ⟨w.heap.size, 3, none⟩ = some (.int .i64 p4) := by rw [← hW]; simp
  have qs : w.heap.size < W.heap.size := by rw [← hW]; simp
  rw [hW] at hal
  have hsW := hs.below hal
  have htW := ht.below hal
  cases hv : fvalid fs
  · have HD := Lib.hid (show dby fs ⟨p1, p2, p3, p4⟩ = -1 by simp [dby, hv])
    rw [HD.out]
    go_enter Tryd.func61, Tryd.ntmps61
    go_wp2_with fail
    refine (implFV_b hsW htW hv).mono ?_
    rintro e w1 ⟨rfl, hb1⟩
    have hw1 := hal.trans (hb1.mono hal.size)
    clear hb1 hW
    go_wp2
    go_ret
    exact ⟨rfl, hw1⟩
  · have HH := Lib.hid hv
    cases hp : Pk.ok ⟨p1, p2, p3, p4⟩
    · have HD := Lib.hid (show dby fs ⟨p1, p2, p3, p4⟩ = -1 by simp [dby, hp])
      rw [HD.out]
      go_enter Tryd.func61, Tryd.ntmps61
      go_wp2_with fail
      refine (implFV_b hsW htW hv).mono ?_
      rintro e w1 ⟨rfl, hb1⟩
      have e0 := (hb1.cell (p := ⟨w.heap.size, 0, none⟩) qs).trans r0
      have e1 := (hb1.cell (p := ⟨w.heap.size, 1, none⟩) qs).trans r1
      have e2 := (hb1.cell (p := ⟨w.heap.size, 2, none⟩) qs).trans r2
      have e3 := (hb1.cell (p := ⟨w.heap.size, 3, none⟩) qs).trans r3
      have hw1 := hal.trans (hb1.mono hal.size)
      have ht1 := htW.below hb1
      clear hb1 hW
      go_wp2_with fail
      refine (pv_b hp ht1).mono ?_
      rintro e w2 ⟨rfl, hb2⟩
      have hw2 := hw1.trans (hb2.mono hw1.size)
      clear hb2
      go_wp2
      go_ret
      exact ⟨rfl, hw2⟩
    · have HD := Lib.hid (show dby fs ⟨p1, p2, p3, p4⟩ = fwith fs ⟨p1, p2, p3, p4⟩ 0 by simp [dby, hv, hp])
      rw [HD.out]
      obtain ⟨r, hr⟩ : ∃ r, fwith fs ⟨p1, p2, p3, p4⟩ 0 = r := ⟨_, rfl⟩
      rw [hr]
      have HR := Lib.hid hr
      clear hr
      go_enter Tryd.func61, Tryd.ntmps61
      go_wp2_with fail
      refine (implFV_b hsW htW hv).mono ?_
      rintro e w1 ⟨rfl, hb1⟩
      have e0 := (hb1.cell (p := ⟨w.heap.size, 0, none⟩) qs).trans r0
      have e1 := (hb1.cell (p := ⟨w.heap.size, 1, none⟩) qs).trans r1
      have e2 := (hb1.cell (p := ⟨w.heap.size, 2, none⟩) qs).trans r2
      have e3 := (hb1.cell (p := ⟨w.heap.size, 3, none⟩) qs).trans r3
      have hW1 := hb1
      have ht1 := htW.below hb1
      clear hb1 hW
      go_wp2_with fail
      refine (pv_b hp ht1).mono ?_
      rintro e w2 ⟨rfl, hb2⟩
      have hW2 := hW1.trans (hb2.mono hW1.size)
      have f0 := (hW2.cell (p := ⟨w.heap.size, 0, none⟩) qs).trans r0
      have f1 := (hW2.cell (p := ⟨w.heap.size, 1, none⟩) qs).trans r1
      have f2 := (hW2.cell (p := ⟨w.heap.size, 2, none⟩) qs).trans r2
      have f3 := (hW2.cell (p := ⟨w.heap.size, 3, none⟩) qs).trans r3
      have qs2 : w.heap.size < w2.heap.size := Nat.lt_of_lt_of_le qs hW2.size
      clear hb2 e0 e1 e2 e3
      go_wp2_with fail
      (refine wp_region_bel (W := w2) [BIs (v), (fun w u => Ifs 0 w u fs), BIs (.agg #[.int .i64 p1, .int .i64 p2, .int .i64 p3, .int .i64 p4]), (BIs (.int .i64 r)), BIs (.int .i64 r)] (by kernel_rfl) (fun u => by simp only [frU, Act.put, List.setIfInBounds_toArray, List.set_cons_succ, List.set_cons_zero, Nat.zero_add, Nat.reduceAdd]; exact rfl) (by kernel_rfl) ⟨bst_is _, (fun _ _ _ hb h => h.below hb), bst_is _, (bst_is _), bst_is _, trivial⟩ ?_ ?_; exact ⟨stB rfl (fun u w3 hC hd Q K hK => by (go_step; exact hK _ _ rfl (Below.refl _ _) rfl)), stB rfl (fun u w3 hC hd Q K hK => by (have hu := bis (w := w3) (hd 0 rfl); rw [hu] at hK ⊢; clear hu; go_step; refine (flatsOf_any fs v _ ((hsW.below hW2).below hC) (fvalid_four HH.out) (fvalid_len HH.out)).mono ?_; rintro e w4 ⟨v4, rfl, ho4, hb4⟩; exact hK _ _ rfl hb4 ho4)), stB rfl (fun u w3 hC hd Q K hK => by (have g0 := (hC.cell (p := ⟨w.heap.size, 0, none⟩) qs2).trans f0; have g1 := (hC.cell (p := ⟨w.heap.size, 1, none⟩) qs2).trans f1; have g2 := (hC.cell (p := ⟨w.heap.size, 2, none⟩) qs2).trans f2; have g3 := (hC.cell (p := ⟨w.heap.size, 3, none⟩) qs2).trans f3; go_step; exact hK _ _ rfl (Below.refl _ _) rfl)), stB rfl (fun u w3 hC hd Q K hK => by (have hi1 := hd 1 rfl; generalize u 1 = v1 at *; have hu := bis (w := w3) (hd 2 rfl); rw [hu] at hK ⊢; clear hu; go_step; refine (firstWith_b hi1 HR.out).mono ?_; rintro e w4 ⟨rfl, hb4⟩; exact hK _ _ rfl hb4 rfl)), stB rfl (fun u w3 hC hd Q K hK => by (have hu := bis (w := w3) (hd 3 rfl); rw [hu] at hK ⊢; clear hu; go_step; exact hK _ _ rfl (Below.refl _ _) rfl)), trivial⟩); intro u w3 hb_w3 hF; rw [bis (w := w3) (hF 0 (by decide))]; generalize u 1 = vx1 at *; rw [bis (w := w3) (hF 2 (by decide))]; generalize u 3 = vx3 at *; rw [bis (w := w3) (hF 4 (by decide))]; clear hF
      have hw3 := hal.trans ((hW2.trans (hb_w3.mono hW2.size)).mono hal.size)
      go_wp2
      go_ret
      exact ⟨rfl, hw3⟩
theorem implDB_b {lo : Nat} {fs : List Ft} {v : Value} {p1 p2 p3 p4 : Int} {w : World} {r : Int} (hs : Fts lo w v fs) (ht : Tab w) (h : dby fs ⟨p1, p2, p3, p4⟩ = r) :
    Calls Tryd.prog 61 #[v, .agg #[.int .i64 p1, .int .i64 p2, .int .i64 p3, .int .i64 p4]] w fun e w' => e = .returned (.int .i64 r) ∧ Below w.heap.size w w' := by
  subst h
  exact implDB_any fs v p1 p2 p3 p4 w hs ht
end Go.Proofs.YtibanpeiigbofaaDoor
