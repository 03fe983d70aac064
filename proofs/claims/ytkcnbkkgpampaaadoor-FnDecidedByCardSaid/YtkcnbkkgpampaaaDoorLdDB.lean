/- The law FnDecidedBy: the walk. -/
import Derived.Test.YtkcnbkkgpampaaaDoorDxN
import Derived.Test.YtkcnbkkgpampaaaDoorAlive
namespace Go.Proofs.YtkcnbkkgpampaaaDoor
open Go.RowKit
theorem Fts.takeK {lo : Nat} {w : World} {a : Option Addr} {n cap k : Nat} {fs : List Ft} (h : Fts lo w (.slice a n cap) fs) (hk : k ≤ n) : Fts lo w (.slice a k cap) (fs.take k) := by
  obtain ⟨rs, ⟨a', cap', he, h1, h2, hx⟩, h3⟩ := h
  obtain ⟨rfl, rfl, rfl⟩ := Value.slice.inj he
  refine ⟨rs.take k, ⟨a, cap, by rw [List.length_take, Nat.min_eq_left hk], by rw [List.length_take]; omega, h2, fun j x hj => hx j x ?_⟩, h3.take k⟩
  have hl := (List.getElem?_eq_some_iff.1 hj).1
  simp only [List.length_take] at hl
  rwa [List.getElem?_take_of_lt (by omega)] at hj
set_option maxHeartbeats 4000000 in
set_option maxRecDepth 100000 in
theorem law_FnDecidedBy (bs : List Int) (v : Value) (w : World) (h : CodeAt w v bs) (ht : Tab w) :
    Calls Tryd.prog 11 #[v] w fun e w' => e = .returned (.bool true) ∧ Below w.heap.size w w' := by
  obtain ⟨a, cap, rfl, l1, l2, -⟩ := code_cells h
  unfold maxLen at l2
  by_cases hl : 1048576 < bs.length
  · go_enter Tryd.func11, Tryd.ntmps11
    go_wp2
    go_ret
    exact ⟨rfl, by (repeat' (first | with_reducible exact Below.refl _ _ | with_reducible assumption | with_reducible refine Below.setCell ?_ ?_ _ | with_reducible refine Below.alloc ?_ ?_ _ | with_reducible refine Below.drew ?_ | with_reducible refine belDrewN ?_ _ | with_reducible refine Below.trans ?_ (Below.mono (by assumption) ?_) | omega | (simp; omega) | (simp; done)))⟩
  · go_enter Tryd.func11, Tryd.ntmps11
    go_wp2_with fail
    refine (drawDB_any _ _ _ h).mono ?_
    rintro e w0 ⟨v0, fs, ⟨p1, p2, p3, p4⟩, rfl, ho, hlen, hok, hb0⟩
    have hz0 := hb0.size
    obtain ⟨sa, sc, rfl, hlc, hcm⟩ := ho.fts.form
    unfold maxLen at hcm
    have hal : Below w0.heap.size w0 (w0.alloc (.cells #[.int .i64 p1, .int .i64 p2, .int .i64 p3, .int .i64 p4] 32)) := (Below.refl _ _).alloc (Nat.le_refl _) _
    obtain ⟨W, hW⟩ : ∃ W, w0.alloc (.cells #[.int .i64 p1, .int .i64 p2, .int .i64 p3, .int .i64 p4] 32) = W := ⟨_, rfl⟩
    have r0 : W.cell? ⟨w0.heap.size, 0, none⟩ = some (.int .i64 p1) := by rw [← hW]; simp
    have r1 : W.cell? ⟨w0.heap.size, 1, none⟩ = some (.int .i64 p2) := by rw [← hW]; simp
    have r2 : W.cell? ⟨w0.heap.size, 2, none⟩ = some (.int .i64 p3) := by rw [← hW]; simp
    have r3 : W.cell? ⟨w0.heap.size, 3, none⟩ = some (.int .i64 p4) := by rw [← hW]; simp
    have qs : w0.heap.size < W.heap.size := by rw [← hW]; simp
    rw [hW] at hal
    have hsW : Fts 0 W (.slice sa fs.length sc) fs := (ho.fts.below hal).mono (Nat.zero_le _)
    have htW := (ht.below hb0).below hal
    have hwW := hb0.trans (hal.mono hz0)
    clear ho h
    rcases dby_cases fs ⟨p1, p2, p3, p4⟩ false with ⟨hr, -⟩ | ⟨k, f, hf, hr, hv, hpk, hbh, hno, -⟩
    · generalize hmm : fs.length = m at *
      go_wp2_with fail
      refine (implDB_b hsW htW hr).mono ?_
      rintro e w1 ⟨rfl, hb1⟩
      have hs1 := hsW.below hb1
      have e0 := (hb1.cell (p := ⟨w0.heap.size, 0, none⟩) qs).trans r0
      have e1 := (hb1.cell (p := ⟨w0.heap.size, 1, none⟩) qs).trans r1
      have e2 := (hb1.cell (p := ⟨w0.heap.size, 2, none⟩) qs).trans r2
      have e3 := (hb1.cell (p := ⟨w0.heap.size, 3, none⟩) qs).trans r3
      have hw1 := hwW.trans (hb1.mono hwW.size)
      have q1 : w0.heap.size < w1.heap.size := Nat.lt_of_lt_of_le qs hb1.size
      clear hb1
      go_wp2_with fail
      refine (specDB_b hs1 hr).mono ?_
      rintro e w2 ⟨rfl, hb2⟩
      have hw2 := hw1.trans (hb2.mono hw1.size)
      clear hb2
      go_wp2_with fail
      refine (alive_any _).mono ?_
      rintro e w4 ⟨rfl, hb4⟩
      have hw4 := hw2.trans (hb4.mono hw2.size)
      go_wp2
      go_ret
      exact ⟨rfl, hw4⟩
    · have hkl := (List.getElem?_eq_some_iff.1 hf).1
      have hrt : dby (fs.take k) ⟨p1, p2, p3, p4⟩ = -1 := dby_take hno
      have hq : (bvalid f.box && Pk.ok ⟨p1, p2, p3, p4⟩ && bhas f.box ⟨p1, p2, p3, p4⟩) = true := by rw [fvalid_at hv hf, hpk, hbh]; rfl
      generalize hmm : fs.length = m at *
      have k1 : (k : Int) < (m : Int) := by omega
      have k2 : (0 : Int) ≤ (k : Int) := by omega
      have k3 : ¬ (k : Int) < 0 := by omega
      go_wp2_with fail
      refine (implDB_b hsW htW hr).mono ?_
      rintro e w1 ⟨rfl, hb1⟩
      have hs1 := hsW.below hb1
      have e0 := (hb1.cell (p := ⟨w0.heap.size, 0, none⟩) qs).trans r0
      have e1 := (hb1.cell (p := ⟨w0.heap.size, 1, none⟩) qs).trans r1
      have e2 := (hb1.cell (p := ⟨w0.heap.size, 2, none⟩) qs).trans r2
      have e3 := (hb1.cell (p := ⟨w0.heap.size, 3, none⟩) qs).trans r3
      have hw1 := hwW.trans (hb1.mono hwW.size)
      have q1 : w0.heap.size < w1.heap.size := Nat.lt_of_lt_of_le qs hb1.size
      have ht1 := htW.below hb1
      clear hb1
      go_wp2_with fail
      refine (specDB_b hs1 hr).mono ?_
      rintro e w2 ⟨rfl, hb2⟩
      have hs2 := hs1.below hb2
      have c0 := (hb2.cell (p := ⟨w0.heap.size, 0, none⟩) q1).trans e0
      have c1 := (hb2.cell (p := ⟨w0.heap.size, 1, none⟩) q1).trans e1
      have c2 := (hb2.cell (p := ⟨w0.heap.size, 2, none⟩) q1).trans e2
      have c3 := (hb2.cell (p := ⟨w0.heap.size, 3, none⟩) q1).trans e3
      have hw2 := hw1.trans (hb2.mono hw1.size)
      have q2 : w0.heap.size < w2.heap.size := Nat.lt_of_lt_of_le q1 hb2.size
      have HT := Lib.hid (ht1.below hb2)
      obtain ⟨b, o, sv, rfl, hbl, d0, -, hsv⟩ := hs2.at hf
      obtain ⟨x1, y1, rfl, -, -⟩ := hsv.form
      have HSV := Lib.hid hsv
      have HTK := Lib.hid (hs2.takeK (k := k) (by omega))
      clear hb2 hsv hs2 hs1 hsW htW ht1 hf hno e0 e1 e2 e3 r0 r1 r2 r3
      go_wp2_with fail
      trace_state
      refine wp_region_over (by kernel_rfl) (by kernel_rfl) (fun ov => ?_); have ov0 := fun x => ov x (b) (by (try simp) <;> omega); have ov1 := fun x => ov x (w0.heap.size) (by (try simp) <;> omega); clear ov; (iterate 9 (iterate 8 (try go_big_quiet_step (first | (go_at_call 38; with_reducible exact callsOver (implBH_b (HSV.out.below (over_below _ _)) (HT.out.below (over_below _ _)) hq)) | (go_at_call 22; with_reducible exact callsOver (implDB_b (HTK.out.below (over_below _ _)) (HT.out.below (over_below _ _)) hrt)))))); refine wpQuiet_nil ?_; intro wa hw9; have hb_wa := below_over hw9; clear hw9 ov0 ov1
      have hwa := hw2.trans (hb_wa.mono hw2.size)
      go_wp2
      go_ret
      exact ⟨rfl, hwa⟩
end Go.Proofs.YtkcnbkkgpampaaaDoor
