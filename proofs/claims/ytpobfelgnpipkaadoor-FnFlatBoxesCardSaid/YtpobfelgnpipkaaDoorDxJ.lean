/- JudgeFlat, both walks. -/
import Derived.Test.YtpobfelgnpipkaaDoorDx
namespace Go.Proofs.YtpobfelgnpipkaaDoor
open Go.RowKit
theorem jw_none {p : Pk} {r : Bool} : ∀ (fs : List Ft), (∀ (i : Nat) g, fs[i]? = some g → bhas g.box p = false) → jw fs r p = r
  | [], _ => rfl
  | f :: fs, h => by
    unfold jw
    rw [h 0 f rfl]
    simp only [Bool.false_eq_true, if_false]
    exact jw_none fs (fun i g hg => h (i + 1) g (by simpa using hg))
theorem jw_hit {p : Pk} {r : Bool} : ∀ (fs : List Ft) (k : Nat) (f : Ft), (∀ (i : Nat) g, i < k → fs[i]? = some g → bhas g.box p = false) → fs[k]? = some f → bhas f.box p = true → jw fs r p = f.acc
  | [], _, _, _, h, _ => by simp at h
  | x :: fs, 0, f, _, h, hb => by
    simp at h
    subst h
    unfold jw
    rw [hb]; rfl
  | x :: fs, k + 1, f, hn, h, hb => by
    unfold jw
    rw [hn 0 x (by omega) rfl]
    simp only [Bool.false_eq_true, if_false]
    exact jw_hit fs k f (fun i g hi hg => hn (i + 1) g (by omega) (by simpa using hg)) (by simpa using h) hb
set_option maxHeartbeats 2000000 in
theorem implJF_any {lo : Nat} (fs : List Ft) (v : Value) (r : Bool) (p1 p2 p3 p4 : Int) (w : World) (hs : Fts lo w v fs) (ht : Tab w) :
    Calls Tryd.prog 63 #[v, .bool r, .agg #[.int .i64 p1, .int .i64 p2, .int .i64 p3, .int .i64 p4]] w fun e w' => e = .returned (.bool (jfl fs r ⟨p1, p2, p3, p4⟩)) ∧ Below w.heap.size w w' := by
  have hal : Below w.heap.size w (w.alloc (.cells #[.int .i64 p1, .int .i64 p2, .int .i64 p3, .int .i64 p4] 40)) := (Below.refl _ _).alloc (Nat.le_refl _) _
  obtain ⟨W, hW⟩ : ∃ W, w.alloc (.cells #[.int .i64 p1, .int .i64 p2, .int .i64 p3, .int .i64 p4] 40) = W := ⟨_, rfl⟩
  have r0 : W.cell? ⟨w.heap.size, 0, none⟩ = some (.int .i64 p1) := by rw [← hW]; simp
  have r1 : W.cell? ⟨w.heap.size, 1, none⟩ = some (.int .i64 p2) := by rw [← hW]; simp
  have r2 : W.cell? ⟨w.heap.size, 2, none⟩ = some (.int .i64 p3) := by rw [← hW]; simp
  have r3 : W.cell? ⟨w.heap.size, 3, none⟩ = some (.int .i64 p4) := by rw [← hW]; simp
  have qs : w.heap.size < W.heap.size := by rw [← hW]; simp
  rw [hW] at hal
  have hsW := hs.below hal
  have htW := ht.below hal
  cases hv : fvalid fs
  · have HD := Lib.hid (show jfl fs r ⟨p1, p2, p3, p4⟩ = false by simp [jfl, hv])
    rw [HD.out]
    go_enter Tryd.func63, Tryd.ntmps63
    go_wp2_with fail
    refine (implFV_b hsW htW hv).mono ?_
    rintro e w1 ⟨rfl, hb1⟩
    have hw1 := hal.trans (hb1.mono hal.size)
    clear hb1 hW
    go_wp2
    go_ret
    exact ⟨rfl, hw1⟩
  · have HH := Lib.hid hv
    cases hp : Pk.ok ⟨p1, p2, p3, p4⟩
    · have HD := Lib.hid (show jfl fs r ⟨p1, p2, p3, p4⟩ = false by simp [jfl, hp])
      rw [HD.out]
      go_enter Tryd.func63, Tryd.ntmps63
      go_wp2_with fail
      refine (implFV_b hsW htW hv).mono ?_
      rintro e w1 ⟨rfl, hb1⟩
      have e0 := (hb1.cell (p := ⟨w.heap.size, 0, none⟩) qs).trans r0
      have e1 := (hb1.cell (p := ⟨w.heap.size, 1, none⟩) qs).trans r1
      have e2 := (hb1.cell (p := ⟨w.heap.size, 2, none⟩) qs).trans r2
      have e3 := (hb1.cell (p := ⟨w.heap.size, 3, none⟩) qs).trans r3
      have hw1 := hal.trans (hb1.mono hal.size)
      have ht1 := htW.below hb1
      clear hb1 hW
      go_wp2_with fail
      refine (pv_b hp ht1).mono ?_
      rintro e w2 ⟨rfl, hb2⟩
      have hw2 := hw1.trans (hb2.mono hw1.size)
      clear hb2
      go_wp2
      go_ret
      exact ⟨rfl, hw2⟩
    · have HD := Lib.hid (show jfl fs r ⟨p1, p2, p3, p4⟩ = jw fs r ⟨p1, p2, p3, p4⟩ by simp [jfl, hv, hp])
      rw [HD.out]
      have HCC := fwith_jw ⟨p1, p2, p3, p4⟩ r fs 0
      obtain ⟨m, hr⟩ : ∃ m, fwith fs ⟨p1, p2, p3, p4⟩ 0 = m := ⟨_, rfl⟩
      rw [hr] at HCC
      have HR := Lib.hid hr
      have HC1 := Lib.hid HCC
      clear hr HCC
      go_enter Tryd.func63, Tryd.ntmps63
      go_wp2_with fail
      refine (implFV_b hsW htW hv).mono ?_
      rintro e w1 ⟨rfl, hb1⟩
      have e0 := (hb1.cell (p := ⟨w.heap.size, 0, none⟩) qs).trans r0
      have e1 := (hb1.cell (p := ⟨w.heap.size, 1, none⟩) qs).trans r1
      have e2 := (hb1.cell (p := ⟨w.heap.size, 2, none⟩) qs).trans r2
      have e3 := (hb1.cell (p := ⟨w.heap.size, 3, none⟩) qs).trans r3
      have hW1 := hb1
      have ht1 := htW.below hb1
      clear hb1 hW
      go_wp2_with fail
      refine (pv_b hp ht1).mono ?_
      rintro e w2 ⟨rfl, hb2⟩
      have hW2 := hW1.trans (hb2.mono hW1.size)
      have f0 := (hW2.cell (p := ⟨w.heap.size, 0, none⟩) qs).trans r0
      have f1 := (hW2.cell (p := ⟨w.heap.size, 1, none⟩) qs).trans r1
      have f2 := (hW2.cell (p := ⟨w.heap.size, 2, none⟩) qs).trans r2
      have f3 := (hW2.cell (p := ⟨w.heap.size, 3, none⟩) qs).trans r3
      have qs2 : w.heap.size < w2.heap.size := Nat.lt_of_lt_of_le qs hW2.size
      clear hb2 e0 e1 e2 e3
      go_wp2_with fail
      (refine wp_region_bel (W := w2) [BIs (v), (fun w u => Ifs 0 w u fs), BIs (.agg #[.int .i64 p1, .int .i64 p2, .int .i64 p3, .int .i64 p4]), (BIs (.int .i64 m)), BIs (.int .i64 m)] (by kernel_rfl) (fun u => by simp only [frU, Act.put, List.setIfInBounds_toArray, List.set_cons_succ, List.set_cons_zero, Nat.zero_add, Nat.reduceAdd]; exact rfl) (by kernel_rfl) ⟨bst_is _, (fun _ _ _ hb h => h.below hb), bst_is _, (bst_is _), bst_is _, trivial⟩ ?_ ?_; exact ⟨stB rfl (fun u w3 hC hd Q K hK => by (go_step; exact hK _ _ rfl (Below.refl _ _) rfl)), stB rfl (fun u w3 hC hd Q K hK => by (have hu := bis (w := w3) (hd 0 rfl); rw [hu] at hK ⊢; clear hu; go_step; refine (flatsOf_any fs v _ ((hsW.below hW2).below hC) (fvalid_four HH.out) (fvalid_len HH.out)).mono ?_; rintro e w4 ⟨v4, rfl, ho4, hb4⟩; exact hK _ _ rfl hb4 ho4)), stB rfl (fun u w3 hC hd Q K hK => by (have g0 := (hC.cell (p := ⟨w.heap.size, 0, none⟩) qs2).trans f0; have g1 := (hC.cell (p := ⟨w.heap.size, 1, none⟩) qs2).trans f1; have g2 := (hC.cell (p := ⟨w.heap.size, 2, none⟩) qs2).trans f2; have g3 := (hC.cell (p := ⟨w.heap.size, 3, none⟩) qs2).trans f3; go_step; exact hK _ _ rfl (Below.refl _ _) rfl)), stB rfl (fun u w3 hC hd Q K hK => by (have hi1 := hd 1 rfl; generalize u 1 = v1 at *; have hu := bis (w := w3) (hd 2 rfl); rw [hu] at hK ⊢; clear hu; go_step; refine (firstWith_b hi1 HR.out).mono ?_; rintro e w4 ⟨rfl, hb4⟩; exact hK _ _ rfl hb4 rfl)), stB rfl (fun u w3 hC hd Q K hK => by (have hu := bis (w := w3) (hd 3 rfl); rw [hu] at hK ⊢; clear hu; go_step; exact hK _ _ rfl (Below.refl _ _) rfl)), trivial⟩); intro u w3 hb_w3 hF; rw [bis (w := w3) (hF 0 (by decide))]; generalize u 1 = vx1 at *; rw [bis (w := w3) (hF 2 (by decide))]; generalize u 3 = vx3 at *; rw [bis (w := w3) (hF 4 (by decide))]; clear hF
      have hw3 := hal.trans ((hW2.trans (hb_w3.mono hW2.size)).mono hal.size)
      have hW3 := hW2.trans (hb_w3.mono hW2.size)
      clear hb_w3
      rcases HC1.out with ⟨h1, h2⟩ | ⟨k, f, hk, h2, -, -, h5⟩
      · subst h1
        go_wp2
        go_ret
        first
          | exact ⟨rfl, hw3⟩
          | exact ⟨ret_bool h2.symm, hw3⟩
      · obtain ⟨a, cap, hv', hlc, hcm⟩ := hs.form
        unfold maxLen at hcm
        subst hv'
        obtain ⟨b', o, sv, rfl, hbl, -, c1, -⟩ := (hsW.below hW3).at hk
        have hkl := (List.getElem?_eq_some_iff.1 hk).1
        rw [Nat.zero_add] at h2
        subst h2
        have HJ5 := Lib.hid h5
        generalize fs.length = n at *
        have i1 : (k : Int) < (n : Int) := by omega
        have i2 : (0 : Int) ≤ (k : Int) := by omega
        clear hk h5
        go_wp2
        go_ret
        exact ⟨ret_bool HJ5.out.symm, hw3⟩
theorem implJF_b {lo : Nat} {fs : List Ft} {v : Value} {r q : Bool} {p1 p2 p3 p4 : Int} {w : World} (hs : Fts lo w v fs) (ht : Tab w) (h : jfl fs r ⟨p1, p2, p3, p4⟩ = q) :
    Calls Tryd.prog 63 #[v, .bool r, .agg #[.int .i64 p1, .int .i64 p2, .int .i64 p3, .int .i64 p4]] w fun e w' => e = .returned (.bool q) ∧ Below w.heap.size w w' := by
  subst h
  exact implJF_any fs v r p1 p2 p3 p4 w hs ht
end Go.Proofs.YtpobfelgnpipkaaDoor
