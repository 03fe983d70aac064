/- The law FnJudgeFlat: the walk. -/
import Derived.Test.YtkcnbkkgpampaaaDoorDxN
import Derived.Test.YtkcnbkkgpampaaaDoorDxJ
import Derived.Test.YtkcnbkkgpampaaaDoorAlive
namespace Go.Proofs.YtkcnbkkgpampaaaDoor
open Go.RowKit
theorem specJF_b {lo : Nat} {fs : List Ft} {v : Value} {r q : Bool} {p1 p2 p3 p4 : Int} {w : World} (hs : Fts lo w v fs) (h : jfl fs r ⟨p1, p2, p3, p4⟩ = q) :
    Calls Tryd.prog 53 #[v, .bool r, .agg #[.int .i64 p1, .int .i64 p2, .int .i64 p3, .int .i64 p4]] w fun e w' => e = .returned (.bool q) ∧ Below w.heap.size w w' := by
  subst h
  exact specJF_any fs v r p1 p2 p3 p4 w hs
def DrewJF (w : World) (e : Ending) (w' : World) : Prop := ∃ v fs r x, e = .returned (.tuple #[v, .bool r, Pk.v x]) ∧ FsD w w' v fs
set_option maxHeartbeats 2000000 in
set_option maxRecDepth 100000 in
theorem drawJF_any (bs : List Int) (v : Value) (w : World) (h : CodeAt w v bs) : Calls Tryd.prog 51 #[v] w (DrewJF w) := by
  have hal : Below w.heap.size w (w.alloc (.cells #[.int .i64 0, .int .i64 0, .int .i64 0, .int .i64 0] 32)) := (Below.refl _ _).alloc (Nat.le_refl _) _
  have hA0 := Box4.new w 0 0 0 0 32
  have h0 : CodeAt (w.alloc (.cells #[.int .i64 0, .int .i64 0, .int .i64 0, .int .i64 0] 32)) v bs := ⟨h.1.below hal, h.2⟩
  go_enter Tryd.func51, Tryd.ntmps51
  go_wp2_with fail
  refine (open_any bs _ _ h0).mono ?_
  rintro e w1 ⟨R, bs', rfl, hR, hr1, hb1⟩
  have hz1 := hb1.size
  simp at hz1 hR
  have hRlt := hr1.lt
  have hA1 := hA0.mv (R := R) (Mv.of_below hb1) (by simp) (by omega)
  go_wp2_with fail
  refine (drawFts_any R bs' 0 14 _ hr1 (by omega) (by omega) (by omega)).mono ?_
  rintro e w2 ⟨v2, fs, q2, rfl, ho2, hl2, hk2, hr2, hq2, hm2⟩
  have hz2 := hm2.size
  have hA2 := hA1.mv hm2 (by omega) (by omega)
  obtain ⟨sa, cap, rfl, hlc, hcm⟩ := ho2.fts.form
  unfold maxLen at hcm
  go_wp2_with fail
  refine (pick_any R bs' _ _ _ hr2 (by omega) (by omega)).mono ?_
  rintro e w2' ⟨x2, rfl, a2, b2, -, hr2', hm2'⟩
  have hz2' := hm2'.size
  have ho2' := ho2.mv hm2' hRlt
  have hA2' := hA2.mv hm2' (by omega) (by omega)
  obtain ⟨rr, hrr⟩ : ∃ rr : Bool, (x2 == 0) = rr := ⟨_, rfl⟩
  clear b2
  go_wp2_with fail
  refine (drawAim_any R bs' (q2 + 1) 14 fs _ _ hr2' (by omega) (by omega) (by omega) ho2'.fts hRlt (by omega) hk2).mono ?_
  rintro e w3 ⟨⟨xa, xb, xc, xd⟩, q3, rfl, hr3, hq3, hm3⟩
  have hz3 := hm3.size
  have HO3 := Lib.hid (ho2'.mv hm3 hRlt)
  have hA3 := hA2'.mv hm3 (by omega) (by omega)
  have hB : Below w.heap.size w w3 := (hal.trans (hb1.mono (by simp))).trans (((hm2.trans (hm2'.mono hz2)).trans (hm3.mono (by omega))).below (by omega) (by omega))
  obtain ⟨a0, d0, d1, d2, d3, df⟩ := id hA3
  clear ho2 ho2' hr2 hr2' hm2 hm2' hA2' hm3 hr3 hA0 hA1 hA2 h0 h
  go_wp2_with fail
  refine bodyPost_ret (v := .tuple #[.slice sa fs.length cap, .bool rr, Pk.v ⟨xa, xb, xc, xd⟩]) (by simp [results, Tryd.results51, go_sem, d0, d1, d2, d3]) rfl ⟨_, fs, rr, ⟨xa, xb, xc, xd⟩, rfl, ?_, hl2, hk2, by (repeat' (first | with_reducible exact Below.refl _ _ | with_reducible assumption | with_reducible refine Below.setCell ?_ ?_ _ | with_reducible refine Below.alloc ?_ ?_ _ | with_reducible refine Below.drew ?_ | with_reducible refine belDrewN ?_ _ | with_reducible refine Below.trans ?_ (Below.mono (by assumption) ?_) | omega | (simp; omega) | (simp; done)))⟩
  exact (HO3.out.keep (by simp) (fun j j1 j2 => by
    rw [Below.heap_setCell _ _ _ _ (by simp only; omega), Below.heap_setCell _ _ _ _ (by simp only; omega), Below.heap_setCell _ _ _ _ (by simp only; omega), Below.heap_setCell _ _ _ _ (by simp only; omega)])).low (by omega)
set_option maxHeartbeats 4000000 in
set_option maxRecDepth 100000 in
theorem law_FnJudgeFlat (bs : List Int) (v : Value) (w : World) (h : CodeAt w v bs) (ht : Tab w) :
    Calls Tryd.prog 12 #[v] w fun e w' => e = .returned (.bool true) ∧ Below w.heap.size w w' := by
  obtain ⟨a, cap, rfl, l1, l2, -⟩ := code_cells h
  unfold maxLen at l2
  by_cases hl : 1048576 < bs.length
  · go_enter Tryd.func12, Tryd.ntmps12
    go_wp2
    go_ret
    exact ⟨rfl, by (repeat' (first | with_reducible exact Below.refl _ _ | with_reducible assumption | with_reducible refine Below.setCell ?_ ?_ _ | with_reducible refine Below.alloc ?_ ?_ _ | with_reducible refine Below.drew ?_ | with_reducible refine belDrewN ?_ _ | with_reducible refine Below.trans ?_ (Below.mono (by assumption) ?_) | omega | (simp; omega) | (simp; done)))⟩
  · go_enter Tryd.func12, Tryd.ntmps12
    go_wp2_with fail
    refine (drawJF_any _ _ _ h).mono ?_
    rintro e w0 ⟨v0, fs, rest, ⟨p1, p2, p3, p4⟩, rfl, ho, hlen, hok, hb0⟩
    have hz0 := hb0.size
    obtain ⟨sa, sc, rfl, hlc, hcm⟩ := ho.fts.form
    unfold maxLen at hcm
    have hal : Below w0.heap.size w0 (w0.alloc (.cells #[.int .i64 p1, .int .i64 p2, .int .i64 p3, .int .i64 p4] 32)) := (Below.refl _ _).alloc (Nat.le_refl _) _
    obtain ⟨W, hW⟩ : ∃ W, w0.alloc (.cells #[.int .i64 p1, .int .i64 p2, .int .i64 p3, .int .i64 p4] 32) = W := ⟨_, rfl⟩
    have r0 : W.cell? ⟨w0.heap.size, 0, none⟩ = some (.int .i64 p1) := by rw [← hW]; simp
    have r1 : W.cell? ⟨w0.heap.size, 1, none⟩ = some (.int .i64 p2) := by rw [← hW]; simp
    have r2 : W.cell? ⟨w0.heap.size, 2, none⟩ = some (.int .i64 p3) := by rw [← hW]; simp
    have r3 : W.cell? ⟨w0.heap.size, 3, none⟩ = some (.int .i64 p4) := by rw [← hW]; simp
    have qs : w0.heap.size < W.heap.size := by rw [← hW]; simp
    rw [hW] at hal
    have hsW : Fts 0 W (.slice sa fs.length sc) fs := (ho.fts.below hal).mono (Nat.zero_le _)
    have htW := (ht.below hb0).below hal
    have hwW := hb0.trans (hal.mono hz0)
    clear ho h
    obtain ⟨q, hq⟩ : ∃ q, jfl fs rest ⟨p1, p2, p3, p4⟩ = q := ⟨_, rfl⟩
    have hqq : (q != q) = false := by cases q <;> rfl
    have HQ := Lib.hid hq
    have HDC := Lib.hid (dby_cases fs ⟨p1, p2, p3, p4⟩ rest)
    generalize hmm : fs.length = m at *
    go_wp2_with fail
    refine (implJF_b hsW htW hq).mono ?_
    rintro e w1 ⟨rfl, hb1⟩
    have hs1 := hsW.below hb1
    have e0 := (hb1.cell (p := ⟨w0.heap.size, 0, none⟩) qs).trans r0
    have e1 := (hb1.cell (p := ⟨w0.heap.size, 1, none⟩) qs).trans r1
    have e2 := (hb1.cell (p := ⟨w0.heap.size, 2, none⟩) qs).trans r2
    have e3 := (hb1.cell (p := ⟨w0.heap.size, 3, none⟩) qs).trans r3
    have hw1 := hwW.trans (hb1.mono hwW.size)
    have q1 : w0.heap.size < w1.heap.size := Nat.lt_of_lt_of_le qs hb1.size
    have ht1 := htW.below hb1
    clear hb1 r0 r1 r2 r3 hsW htW
    go_wp2_with fail
    refine (specJF_b hs1 hq).mono ?_
    rintro e w2 ⟨rfl, hb2⟩
    have hs2 := hs1.below hb2
    have c0 := (hb2.cell (p := ⟨w0.heap.size, 0, none⟩) q1).trans e0
    have c1 := (hb2.cell (p := ⟨w0.heap.size, 1, none⟩) q1).trans e1
    have c2 := (hb2.cell (p := ⟨w0.heap.size, 2, none⟩) q1).trans e2
    have c3 := (hb2.cell (p := ⟨w0.heap.size, 3, none⟩) q1).trans e3
    have hw2 := hw1.trans (hb2.mono hw1.size)
    have q2 : w0.heap.size < w2.heap.size := Nat.lt_of_lt_of_le q1 hb2.size
    have ht2 := ht1.below hb2
    clear hb2 hs1 ht1 e0 e1 e2 e3 hq
    cases hfv : fvalid fs
    · have hqf : q = false := by rw [← HQ.out]; simp [jfl, hfv]
      subst hqf
      go_wp2_with fail
      refine (specFV_b hs2 hfv).mono ?_
      rintro e w3 ⟨rfl, hb3⟩
      have hw3 := hw2.trans (hb3.mono hw2.size)
      go_wp2_with fail
      refine (alive_any _).mono ?_
      rintro e w4 ⟨rfl, hb4⟩
      have hw4 := hw3.trans (hb4.mono hw3.size)
      go_wp2
      go_ret
      exact ⟨rfl, hw4⟩
    · cases hpk : Pk.ok ⟨p1, p2, p3, p4⟩
      · have hqf : q = false := by rw [← HQ.out]; simp [jfl, hpk]
        subst hqf
        go_wp2_with fail
        refine (specFV_b hs2 hfv).mono ?_
        rintro e w3 ⟨rfl, hb3⟩
        have d0 := (hb3.cell (p := ⟨w0.heap.size, 0, none⟩) q2).trans c0
        have d1 := (hb3.cell (p := ⟨w0.heap.size, 1, none⟩) q2).trans c1
        have d2 := (hb3.cell (p := ⟨w0.heap.size, 2, none⟩) q2).trans c2
        have d3 := (hb3.cell (p := ⟨w0.heap.size, 3, none⟩) q2).trans c3
        have hw3 := hw2.trans (hb3.mono hw2.size)
        go_wp2_with fail
        refine (specPV_b hpk _).mono ?_
        rintro e w4 ⟨rfl, hb4⟩
        have hw4 := hw3.trans (hb4.mono hw3.size)
        go_wp2_with fail
        refine (alive_any _).mono ?_
        rintro e w5 ⟨rfl, hb5⟩
        have hw5 := hw4.trans (hb5.mono hw4.size)
        go_wp2
        go_ret
        exact ⟨rfl, hw5⟩
      · go_wp2_with fail
        refine (specFV_b hs2 hfv).mono ?_
        rintro e w3 ⟨rfl, hb3⟩
        have d0 := (hb3.cell (p := ⟨w0.heap.size, 0, none⟩) q2).trans c0
        have d1 := (hb3.cell (p := ⟨w0.heap.size, 1, none⟩) q2).trans c1
        have d2 := (hb3.cell (p := ⟨w0.heap.size, 2, none⟩) q2).trans c2
        have d3 := (hb3.cell (p := ⟨w0.heap.size, 3, none⟩) q2).trans c3
        have hw3 := hw2.trans (hb3.mono hw2.size)
        have q3 : w0.heap.size < w3.heap.size := Nat.lt_of_lt_of_le q2 hb3.size
        go_wp2_with fail
        refine (specPV_b hpk _).mono ?_
        rintro e w4 ⟨rfl, hb4⟩
        have f0 := (hb4.cell (p := ⟨w0.heap.size, 0, none⟩) q3).trans d0
        have f1 := (hb4.cell (p := ⟨w0.heap.size, 1, none⟩) q3).trans d1
        have f2 := (hb4.cell (p := ⟨w0.heap.size, 2, none⟩) q3).trans d2
        have f3 := (hb4.cell (p := ⟨w0.heap.size, 3, none⟩) q3).trans d3
        have hw4 := hw3.trans (hb4.mono hw3.size)
        have hs4 := (hs2.below hb3).below hb4
        have ht4 := (ht2.below hb3).below hb4
        have q4 : w0.heap.size < w4.heap.size := Nat.lt_of_lt_of_le q3 hb4.size
        clear hb3 hb4 c0 c1 c2 c3 d0 d1 d2 d3 hs2 ht2
        rcases HDC.out with ⟨hr, hj⟩ | ⟨k, f, hf, hr, -, -, -, -, hj⟩
        · have hqr : q = rest := by
            rcases hj with hj | hj
            · rw [← HQ.out, hj]
            · rw [hfv, hpk] at hj; cases hj
          subst hqr
          have hpp : (q == q) = true := by cases q <;> rfl
          clear HDC hj
          go_wp2_with fail
          refine (implDB_b hs4 ht4 hr).mono ?_
          rintro e w5 ⟨rfl, hb5⟩
          have hw5 := hw4.trans (hb5.mono hw4.size)
          go_wp2
          go_ret
          exact ⟨rfl, hw5⟩
        · have hqr : q = f.acc := by rw [← HQ.out, hj]
          have hkl := (List.getElem?_eq_some_iff.1 hf).1
          rw [hmm] at hkl
          have k1 : (k : Int) < (m : Int) := by omega
          have k2 : (0 : Int) ≤ (k : Int) := by omega
          have k3 : ¬ (k : Int) < 0 := by omega
          clear HDC hj
          go_wp2_with fail
          refine (implDB_b hs4 ht4 hr).mono ?_
          rintro e w5 ⟨rfl, hb5⟩
          have hw5 := hw4.trans (hb5.mono hw4.size)
          obtain ⟨b, o, sv, rfl, hbl, g0, g1, -⟩ := (hs4.below hb5).at hf
          rw [← hqr] at g1
          have hpp : (q == q) = true := by cases q <;> rfl
          go_wp2
          go_ret
          exact ⟨rfl, hw5⟩
end Go.Proofs.YtkcnbkkgpampaaaDoor
