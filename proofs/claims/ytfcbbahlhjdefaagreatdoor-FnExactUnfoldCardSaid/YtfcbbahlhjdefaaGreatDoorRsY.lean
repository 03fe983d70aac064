/- The reference's RulesetValid and what it calls. -/
import Derived.Test.YtfcbbahlhjdefaaGreatDoorRsX
import Derived.Test.YtfcbbahlhjdefaaGreatDoorDt
namespace Go.Proofs.YtfcbbahlhjdefaaGreatDoor
open Go.RowKit
set_option maxHeartbeats 2000000 in
set_option maxRecDepth 100000 in
theorem specTsG_any {lo : Nat} (xs : List Te) (v : Value) (w : World) (hs : Tss lo w v xs) :
    Calls Tryz.prog 99 #[v] w fun e w' => e = .returned (.bool (tsvalid xs)) ∧ Below w.heap.size w w' := by
  obtain ⟨a, cap, rfl, hlc, hcm⟩ := hs.form
  unfold maxLen at hcm
  generalize hn : xs.length = n at *
  have HN := Lib.hid hn
  have HS := Lib.hid hs
  clear hn hs
  go_enter Tryz.func99, Tryz.ntmps99
  go_wp2_with fail
  go_loopw [3] (fun i wr => ∃ k : Nat, k ≤ n ∧ i = .int .i64 k ∧ Hid ((xs.take k).all Te.ok = true) ∧ Below w.heap.size w wr) (fun i _ => n - (intOf i).toNat)
  case atStart => exact ⟨0, by omega, rfl, Lib.hid (by simp), Below.refl _ _⟩
  case round =>
    obtain ⟨k, hk, rfl, HG, hbr⟩ := hrel
    have hzr := hbr.size
    by_cases hlt : k < n
    · have i1 : (k : Int) < (n : Int) := by omega
      have i2 : (0 : Int) ≤ (k : Int) := by omega
      obtain ⟨b, o, f, tl, th, q, rfl, hbl, hx, c0, c1, c2, c3⟩ := ((HS.out.below hbr).z).at (show k < xs.length by rw [HN.out]; exact hlt)
      obtain ⟨r, hr⟩ : ∃ r, (⟨f, tl, th, q⟩ : Te).ok = r := ⟨_, rfl⟩
      have HR := Lib.hid hr
      have HX := Lib.hid hx
      clear hx hr
      go_wp2_with fail
      refine (specTV_b (show tvalid1 f tl th = r from HR.out) _).mono ?_
      rintro e w2 ⟨rfl, hb2⟩
      have hw2 : Below w.heap.size w w2 := hbr.trans (hb2.mono hzr)
      clear hb2
      cases r
      · have HF := Lib.hid (show tsvalid xs = false by
          unfold tsvalid
          rw [List.all_eq_false.2 ⟨_, List.mem_of_getElem? HX.out, by rw [HR.out]; simp⟩, Bool.false_and])
        go_wp2
        go_ret
        exact ⟨ret_bool HF.out.symm, hw2⟩
      · have HG2 := Lib.hid (show (xs.take (k + 1)).all Te.ok = true by rw [List.take_add_one, HX.out, Option.toList_some, List.all_append, HG.out, List.all_cons, HR.out]; simp)
        go_wp2
        go_roundw
        case rel => exact ⟨k + 1, by omega, by go_num, HG2, hw2⟩
        case measure => simp [intOf]; omega
    · have HF := Lib.hid (show tsvalid xs = decide ((n : Int) ≤ 6) by
        unfold tsvalid
        have := HG.out
        rw [List.take_of_length_le (by rw [HN.out]; omega)] at this
        rw [this, HN.out, Bool.true_and]
        by_cases e : n ≤ 6
        · rw [decide_eq_true e, decide_eq_true (by omega)]
        · rw [decide_eq_false e, decide_eq_false (by omega)])
      go_wp2
      go_ret
      exact ⟨ret_bool HF.out.symm, hbr⟩
theorem specTsG_b {lo : Nat} {xs : List Te} {v : Value} {w : World} {r : Bool} (hs : Tss lo w v xs) (h : tsvalid xs = r) :
    Calls Tryz.prog 99 #[v] w fun e w' => e = .returned (.bool r) ∧ Below w.heap.size w w' := by
  subst h
  exact specTsG_any xs v w hs
set_option maxHeartbeats 2000000 in
set_option maxRecDepth 100000 in
theorem specRuV_b {lo : Nat} {ts : List Te} {a c : Int} {v : Value} {w : World} {r : Bool} (hs : Tss lo w v ts) (h : (⟨ts, a, c⟩ : Ru).ok = r) :
    Calls Tryz.prog 98 #[.agg #[v, .int .i64 a, .int .i64 c]] w fun e w' => e = .returned (.bool r) ∧ Below w.heap.size w w' := by
  obtain ⟨sa, sc, rfl, -, -⟩ := hs.form
  obtain ⟨W, hW⟩ : ∃ W, w.alloc (.cells #[.slice sa ts.length sc, .int .i64 a, .int .i64 c] 101) = W := ⟨_, rfl⟩
  have hal : Below w.heap.size w W := by rw [← hW]; exact (Below.refl _ _).alloc (Nat.le_refl _) _
  have hl : w.heap.size < W.heap.size := by rw [← hW]; simp
  have q0 : W.cell? ⟨w.heap.size, 0, none⟩ = some (.slice sa ts.length sc) := by rw [← hW]; simp
  have q1 : W.cell? ⟨w.heap.size, 1, none⟩ = some (.int .i64 a) := by rw [← hW]; simp
  have q2 : W.cell? ⟨w.heap.size, 2, none⟩ = some (.int .i64 c) := by rw [← hW]; simp
  have HS := Lib.hid (hs.below hal)
  rw [ruok_eq] at h
  obtain ⟨rt, hrt⟩ : ∃ r, tsvalid ts = r := ⟨_, rfl⟩
  obtain ⟨ra, hra⟩ : ∃ r, inB a 1 5 = r := ⟨_, rfl⟩
  obtain ⟨rc, hrc⟩ : ∃ r, inB c 0 4 = r := ⟨_, rfl⟩
  rw [hrt, hra, hrc] at h
  have HR := Lib.hid h
  have HRT := Lib.hid hrt
  have HRA := Lib.hid hra
  have HRC := Lib.hid hrc
  clear hs h hrt hra hrc
  go_enter Tryz.func98, Tryz.ntmps98
  go_wp2_with fail
  refine (specTsG_b HS.out HRT.out).mono ?_
  rintro e w1 ⟨rfl, hb1⟩
  have hw1 := hal.trans (hb1.mono hal.size)
  have p1 := (hb1.cell (p := ⟨w.heap.size, 1, none⟩) hl).trans q1
  have p2 := (hb1.cell (p := ⟨w.heap.size, 2, none⟩) hl).trans q2
  have hl1 := Nat.lt_of_lt_of_le hl hb1.size
  clear q0 q1 q2 hb1
  cases rt
  · obtain rfl : r = false := by rw [← HR.out]; simp
    go_wp2
    go_ret
    exact ⟨rfl, hw1⟩
  · go_wp2_with fail
    refine (l1In_b HRA.out _).mono ?_
    rintro e _ ⟨rfl, rfl⟩
    cases ra
    · obtain rfl : r = false := by rw [← HR.out]; simp
      go_wp2
      go_ret
      exact ⟨rfl, hw1⟩
    · by_cases h3 : a = 3
      · subst h3
        go_wp2_with fail
        refine (l1In_b HRC.out _).mono ?_
        rintro e _ ⟨rfl, rfl⟩
        cases rc
        · obtain rfl : r = false := by rw [← HR.out]; simp
          go_wp2
          go_ret
          exact ⟨rfl, hw1⟩
        · obtain rfl : r = true := by rw [← HR.out]; simp
          go_wp2
          go_ret
          exact ⟨rfl, hw1⟩
      · have h3b : (a == 3) = false := by simpa using h3
        have h3c : (a != 3) = true := by simpa using h3
        obtain ⟨z, hz⟩ : ∃ z : Bool, (c == 0) = z := ⟨_, rfl⟩
        obtain rfl : r = z := by rw [← HR.out, h3b, h3c, hz]; simp
        have HZ := Lib.hid hz
        cases r
        · go_wp2
          go_ret
          exact ⟨rfl, hw1⟩
        · go_wp2
          go_ret
          exact ⟨rfl, hw1⟩
set_option maxHeartbeats 2000000 in
set_option maxRecDepth 100000 in
theorem specRsG_any {lo : Nat} (xs : List Ru) (v : Value) (w : World) (hs : Rus lo w v xs) :
    Calls Tryz.prog 64 #[v] w fun e w' => e = .returned (.bool (rusvalid xs)) ∧ Below w.heap.size w w' := by
  obtain ⟨a, cap, rfl, hlc, hcm⟩ := hs.form
  unfold maxLen at hcm
  generalize hn : xs.length = n at *
  have HN := Lib.hid hn
  have HS := Lib.hid hs
  clear hn hs
  go_enter Tryz.func64, Tryz.ntmps64
  go_wp2_with fail
  go_loopw [3] (fun i wr => ∃ k : Nat, k ≤ n ∧ i = .int .i64 k ∧ Hid ((xs.take k).all Ru.ok = true) ∧ Below w.heap.size w wr) (fun i _ => n - (intOf i).toNat)
  case atStart => exact ⟨0, by omega, rfl, Lib.hid (by simp), Below.refl _ _⟩
  case round =>
    obtain ⟨k, hk, rfl, HG, hbr⟩ := hrel
    have hzr := hbr.size
    by_cases hlt : k < n
    · have i1 : (k : Int) < (n : Int) := by omega
      have i2 : (0 : Int) ≤ (k : Int) := by omega
      obtain ⟨x, hx⟩ : ∃ x, xs[k]? = some x := ⟨_, List.getElem?_eq_getElem (by rw [HN.out]; exact hlt)⟩
      obtain ⟨b, o, sv, rfl, hbl, c0, c1, c2, hsv⟩ := (HS.out.below hbr).at hx
      obtain ⟨sa, sc, rfl, -, -⟩ := hsv.form
      obtain ⟨ts, ra, rc⟩ := x
      simp only at c0 c1 c2 hsv
      have HSV := Lib.hid hsv
      clear hsv
      obtain ⟨r, hr⟩ : ∃ r, (⟨ts, ra, rc⟩ : Ru).ok = r := ⟨_, rfl⟩
      have HR := Lib.hid hr
      have HX := Lib.hid hx
      clear hx hr
      go_wp2_with fail
      refine (specRuV_b HSV.out HR.out).mono ?_
      rintro e w2 ⟨rfl, hb2⟩
      have hw2 : Below w.heap.size w w2 := hbr.trans (hb2.mono hzr)
      clear hb2
      cases r
      · have HF := Lib.hid (show rusvalid xs = false by
          unfold rusvalid
          rw [List.all_eq_false.2 ⟨_, List.mem_of_getElem? HX.out, by rw [HR.out]; simp⟩, Bool.false_and])
        go_wp2
        go_ret
        exact ⟨ret_bool HF.out.symm, hw2⟩
      · have HG2 := Lib.hid (show (xs.take (k + 1)).all Ru.ok = true by rw [List.take_add_one, HX.out, Option.toList_some, List.all_append, HG.out, List.all_cons, HR.out]; simp)
        go_wp2
        go_roundw
        case rel => exact ⟨k + 1, by omega, by go_num, HG2, hw2⟩
        case measure => simp [intOf]; omega
    · have HF := Lib.hid (show rusvalid xs = decide ((n : Int) ≤ 8) by
        unfold rusvalid
        have := HG.out
        rw [List.take_of_length_le (by rw [HN.out]; omega)] at this
        rw [this, HN.out, Bool.true_and]
        by_cases e : n ≤ 8
        · rw [decide_eq_true e, decide_eq_true (by omega)]
        · rw [decide_eq_false e, decide_eq_false (by omega)])
      go_wp2
      go_ret
      exact ⟨ret_bool HF.out.symm, hbr⟩
theorem specRsG_b {lo : Nat} {xs : List Ru} {v : Value} {w : World} {r : Bool} (hs : Rus lo w v xs) (h : rusvalid xs = r) :
    Calls Tryz.prog 64 #[v] w fun e w' => e = .returned (.bool r) ∧ Below w.heap.size w w' := by
  subst h
  exact specRsG_any xs v w hs
end Go.Proofs.YtfcbbahlhjdefaaGreatDoor
