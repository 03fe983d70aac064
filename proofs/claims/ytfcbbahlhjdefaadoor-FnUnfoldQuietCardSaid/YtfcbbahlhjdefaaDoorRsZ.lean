/- RulesetValid of the program. -/
import Derived.Test.YtfcbbahlhjdefaaDoorRsX
import Derived.Test.YtfcbbahlhjdefaaDoorDt
/- The reference's RulesetValid and what it calls. -/
namespace Go.Proofs.YtfcbbahlhjdefaaDoor
open Go.RowKit
set_option maxHeartbeats 2000000 in
set_option maxRecDepth 100000 in
theorem specTsG_any {lo : Nat} (xs : List Te) (v : Value) (w : World) (hs : Tss lo w v xs) :
    Calls Tryd.prog 49 #[v] w fun e w' => e = .returned (.bool (tsvalid xs)) ∧ Below w.heap.size w w' := by
  obtain ⟨a, cap, rfl, hlc, hcm⟩ := hs.form
  unfold maxLen at hcm
  generalize hn : xs.length = n at *
  have HN := Lib.hid hn
  have HS := Lib.hid hs
  clear hn hs
  go_enter Tryd.func49, Tryd.ntmps49
  go_wp2_with fail
  go_loopw [3] (fun i wr => ∃ k : Nat, k ≤ n ∧ i = .int .i64 k ∧ Hid ((xs.take k).all Te.ok = true) ∧ Below w.heap.size w wr) (fun i _ => n - (intOf i).toNat)
  case atStart => exact ⟨0, by omega, rfl, Lib.hid (by simp), Below.refl _ _⟩
  case round =>
    obtain ⟨k, hk, rfl, HG, hbr⟩ := hrel
    have hzr := hbr.size
    by_cases hlt : k < n
    · have i1 : (k : Int) < (n : Int) := by omega
      have i2 : (0 : Int) ≤ (k : Int) := by omega
      obtain ⟨b, o, f, tl, th, q, rfl, hbl, hx, c0, c1, c2, c3⟩ := ((HS.out.below hbr).z).at (show k < xs.length by rw [HN.out]; exact hlt)
      obtain ⟨r, hr⟩ : ∃ r, (⟨f, tl, th, q⟩ : Te).ok = r := ⟨_, rfl⟩
      have HR := Lib.hid hr
      have HX := Lib.hid hx
      clear hx hr
      go_wp2_with fail
      refine (specTV_b (show tvalid1 f tl th = r from HR.out) _).mono ?_
      rintro e w2 ⟨rfl, hb2⟩
      have hw2 : Below w.heap.size w w2 := hbr.trans (hb2.mono hzr)
      clear hb2
      cases r
      · have HF := Lib.hid (show tsvalid xs = false by
          unfold tsvalid
          rw [List.all_eq_false.2 ⟨_, List.mem_of_getElem? HX.out, by rw [HR.out]; simp⟩, Bool.false_and])
        go_wp2
        go_ret
        exact ⟨ret_bool HF.out.symm, hw2⟩
      · have HG2 := Lib.hid (show (xs.take (k + 1)).all Te.ok = true by rw [List.take_add_one, HX.out, Option.toList_some, List.all_append, HG.out, List.all_cons, HR.out]; simp)
        go_wp2
        go_roundw
        case rel => exact ⟨k + 1, by omega, by go_num, HG2, hw2⟩
        case measure => simp [intOf]; omega
    · have HF := Lib.hid (show tsvalid xs = decide ((n : Int) ≤ 6) by
        unfold tsvalid
        have := HG.out
        rw [List.take_of_length_le (by rw [HN.out]; omega)] at this
        rw [this, HN.out, Bool.true_and]
        by_cases e : n ≤ 6
        · rw [decide_eq_true e, decide_eq_true (by omega)]
        · rw [decide_eq_false e, decide_eq_false (by omega)])
      go_wp2
      go_ret
      exact ⟨ret_bool HF.out.symm, hbr⟩
theorem specTsG_b {lo : Nat} {xs : List Te} {v : Value} {w : World} {r : Bool} (hs : Tss lo w v xs) (h : tsvalid xs = r) :
    Calls Tryd.prog 49 #[v] w fun e w' => e = .returned (.bool r) ∧ Below w.heap.size w w' := by
  subst h
  exact specTsG_any xs v w hs
set_option maxHeartbeats 2000000 in
set_option maxRecDepth 100000 in
theorem specRuV_b {lo : Nat} {ts : List Te} {a c : Int} {v : Value} {w : World} {r : Bool} (hs : Tss lo w v ts) (h : (⟨ts, a, c⟩ : Ru).ok = r) :
    Calls Tryd.prog 37 #[.agg #[v, .int .i64 a, .int .i64 c]] w fun e w' => e = .returned (.bool r) ∧ Below w.heap.size w w' := by
  obtain ⟨sa, sc, rfl, -, -⟩ := hs.form
  obtain ⟨W, hW⟩ : ∃ W, w.alloc (.cells #[.slice sa ts.length sc, .int .i64 a, .int .i64 c] 34) = W := ⟨_, rfl⟩
  have hal : Below w.heap.size w W := by rw [← hW]; exact (Below.refl _ _).alloc (Nat.le_refl _) _
  have hl : w.heap.size < W.heap.size := by rw [← hW]; simp
  have q0 : W.cell? ⟨w.heap.size, 0, none⟩ = some (.slice sa ts.length sc) := by rw [← hW]; simp
  have q1 : W.cell? ⟨w.heap.size, 1, none⟩ = some (.int .i64 a) := by rw [← hW]; simp
  have q2 : W.cell? ⟨w.heap.size, 2, none⟩ = some (.int .i64 c) := by rw [← hW]; simp
  have HS := Lib.hid (hs.below hal)
  rw [ruok_eq] at h
  obtain ⟨rt, hrt⟩ : ∃ r, tsvalid ts = r := ⟨_, rfl⟩
  obtain ⟨ra, hra⟩ : ∃ r, inB a 1 5 = r := ⟨_, rfl⟩
  obtain ⟨rc, hrc⟩ : ∃ r, inB c 0 4 = r := ⟨_, rfl⟩
  rw [hrt, hra, hrc] at h
  have HR := Lib.hid h
  have HRT := Lib.hid hrt
  have HRA := Lib.hid hra
  have HRC := Lib.hid hrc
  clear hs h hrt hra hrc
  go_enter Tryd.func37, Tryd.ntmps37
  go_wp2_with fail
  refine (specTsG_b HS.out HRT.out).mono ?_
  rintro e w1 ⟨rfl, hb1⟩
  have hw1 := hal.trans (hb1.mono hal.size)
  have p1 := (hb1.cell (p := ⟨w.heap.size, 1, none⟩) hl).trans q1
  have p2 := (hb1.cell (p := ⟨w.heap.size, 2, none⟩) hl).trans q2
  have hl1 := Nat.lt_of_lt_of_le hl hb1.size
  clear q0 q1 q2 hb1
  cases rt
  · obtain rfl : r = false := by rw [← HR.out]; simp
    go_wp2
    go_ret
    exact ⟨rfl, hw1⟩
  · go_wp2_with fail
    refine (l1In_b HRA.out _).mono ?_
    rintro e _ ⟨rfl, rfl⟩
    cases ra
    · obtain rfl : r = false := by rw [← HR.out]; simp
      go_wp2
      go_ret
      exact ⟨rfl, hw1⟩
    · by_cases h3 : a = 3
      · subst h3
        go_wp2_with fail
        refine (l1In_b HRC.out _).mono ?_
        rintro e _ ⟨rfl, rfl⟩
        cases rc
        · obtain rfl : r = false := by rw [← HR.out]; simp
          go_wp2
          go_ret
          exact ⟨rfl, hw1⟩
        · obtain rfl : r = true := by rw [← HR.out]; simp
          go_wp2
          go_ret
          exact ⟨rfl, hw1⟩
      · have h3b : (a == 3) = false := by simpa using h3
        have h3c : (a != 3) = true := by simpa using h3
        obtain ⟨z, hz⟩ : ∃ z : Bool, (c == 0) = z := ⟨_, rfl⟩
        obtain rfl : r = z := by rw [← HR.out, h3b, h3c, hz]; simp
        have HZ := Lib.hid hz
        cases r
        · go_wp2
          go_ret
          exact ⟨rfl, hw1⟩
        · go_wp2
          go_ret
          exact ⟨rfl, hw1⟩
set_option maxHeartbeats 2000000 in
set_option maxRecDepth 100000 in
theorem specRsG_any {lo : Nat} (xs : List Ru) (v : Value) (w : World) (hs : Rus lo w v xs) :
    Calls Tryd.prog 20 #[v] w fun e w' => e = .returned (.bool (rusvalid xs)) ∧ Below w.heap.size w w' := by
  obtain ⟨a, cap, rfl, hlc, hcm⟩ := hs.form
  unfold maxLen at hcm
  generalize hn : xs.length = n at *
  have HN := Lib.hid hn
  have HS := Lib.hid hs
  clear hn hs
  go_enter Tryd.func20, Tryd.ntmps20
  go_wp2_with fail
  go_loopw [3] (fun i wr => ∃ k : Nat, k ≤ n ∧ i = .int .i64 k ∧ Hid ((xs.take k).all Ru.ok = true) ∧ Below w.heap.size w wr) (fun i _ => n - (intOf i).toNat)
  case atStart => exact ⟨0, by omega, rfl, Lib.hid (by simp), Below.refl _ _⟩
  case round =>
    obtain ⟨k, hk, rfl, HG, hbr⟩ := hrel
    have hzr := hbr.size
    by_cases hlt : k < n
    · have i1 : (k : Int) < (n : Int) := by omega
      have i2 : (0 : Int) ≤ (k : Int) := by omega
      obtain ⟨x, hx⟩ : ∃ x, xs[k]? = some x := ⟨_, List.getElem?_eq_getElem (by rw [HN.out]; exact hlt)⟩
      obtain ⟨b, o, sv, rfl, hbl, c0, c1, c2, hsv⟩ := (HS.out.below hbr).at hx
      obtain ⟨sa, sc, rfl, -, -⟩ := hsv.form
      obtain ⟨ts, ra, rc⟩ := x
      simp only at c0 c1 c2 hsv
      have HSV := Lib.hid hsv
      clear hsv
      obtain ⟨r, hr⟩ : ∃ r, (⟨ts, ra, rc⟩ : Ru).ok = r := ⟨_, rfl⟩
      have HR := Lib.hid hr
      have HX := Lib.hid hx
      clear hx hr
      go_wp2_with fail
      refine (specRuV_b HSV.out HR.out).mono ?_
      rintro e w2 ⟨rfl, hb2⟩
      have hw2 : Below w.heap.size w w2 := hbr.trans (hb2.mono hzr)
      clear hb2
      cases r
      · have HF := Lib.hid (show rusvalid xs = false by
          unfold rusvalid
          rw [List.all_eq_false.2 ⟨_, List.mem_of_getElem? HX.out, by rw [HR.out]; simp⟩, Bool.false_and])
        go_wp2
        go_ret
        exact ⟨ret_bool HF.out.symm, hw2⟩
      · have HG2 := Lib.hid (show (xs.take (k + 1)).all Ru.ok = true by rw [List.take_add_one, HX.out, Option.toList_some, List.all_append, HG.out, List.all_cons, HR.out]; simp)
        go_wp2
        go_roundw
        case rel => exact ⟨k + 1, by omega, by go_num, HG2, hw2⟩
        case measure => simp [intOf]; omega
    · have HF := Lib.hid (show rusvalid xs = decide ((n : Int) ≤ 8) by
        unfold rusvalid
        have := HG.out
        rw [List.take_of_length_le (by rw [HN.out]; omega)] at this
        rw [this, HN.out, Bool.true_and]
        by_cases e : n ≤ 8
        · rw [decide_eq_true e, decide_eq_true (by omega)]
        · rw [decide_eq_false e, decide_eq_false (by omega)])
      go_wp2
      go_ret
      exact ⟨ret_bool HF.out.symm, hbr⟩
theorem specRsG_b {lo : Nat} {xs : List Ru} {v : Value} {w : World} {r : Bool} (hs : Rus lo w v xs) (h : rusvalid xs = r) :
    Calls Tryd.prog 20 #[v] w fun e w' => e = .returned (.bool r) ∧ Below w.heap.size w w' := by
  subst h
  exact specRsG_any xs v w hs
end Go.Proofs.YtfcbbahlhjdefaaDoor
namespace Go.Proofs.YtfcbbahlhjdefaaDoor
open Go.RowKit
theorem rusvalid_ok {l : List Ru} (h : rusvalid l = true) (k : Nat) (r : Ru) (hr : l[k]? = some r) : r.ok = true := by
  unfold rusvalid at h
  rw [Bool.and_eq_true, List.all_eq_true] at h
  exact h.1 r (List.mem_of_getElem? hr)
set_option maxHeartbeats 4000000 in
set_option maxRecDepth 100000 in
theorem implRstV_any {lo : Nat} (cs : List (List Ru)) (acc : Bool) (v : Value) (w : World) (hs : Rss lo w v cs) (ht : Tab w) :
    Calls Tryd.prog 14 #[.agg #[v, .bool acc]] w fun e w' => e = .returned (.bool (rsvalid cs)) ∧ Below w.heap.size w w' := by
  obtain ⟨va, vc, rfl, hlc, hcm⟩ := hs.form
  unfold maxLen at hcm
  obtain ⟨n, hnn⟩ : ∃ n, cs.length = n := ⟨_, rfl⟩
  have HN := Lib.hid hnn
  rw [hnn] at hs hlc ⊢
  obtain ⟨W, hW⟩ : ∃ W, w.alloc (.cells #[.slice va n vc, .bool acc] 25) = W := ⟨_, rfl⟩
  have hal : Below w.heap.size w W := by rw [← hW]; exact (Below.refl _ _).alloc (Nat.le_refl _) _
  have hl : w.heap.size < W.heap.size := by rw [← hW]; simp
  have q0 : W.cell? ⟨w.heap.size, 0, none⟩ = some (.slice va n vc) := by rw [← hW]; simp
  have HQ := Lib.hid q0
  have HS := Lib.hid (hs.below hal)
  have HT := Lib.hid (ht.below hal)
  clear hs ht hnn
  by_cases hb : n < 1 ∨ 5 < n
  · have HF := Lib.hid (show rsvalid cs = false by
      unfold rsvalid
      rw [HN.out, inB_and]
      rcases hb with h | h
      · rw [decide_eq_false (show ¬ (1 : Int) ≤ (n : Int) by omega)]; simp
      · rw [decide_eq_false (show ¬ (n : Int) ≤ 5 by omega)]; simp)
    by_cases h1 : n < 1
    · have j1 : (n : Int) < 1 := by omega
      go_enter Tryd.func14, Tryd.ntmps14
      go_wp2
      go_ret
      exact ⟨ret_bool HF.out.symm, hal⟩
    · have j1 : ¬ (n : Int) < 1 := by omega
      have j2 : 5 < (n : Int) := by omega
      go_enter Tryd.func14, Tryd.ntmps14
      go_wp2
      go_ret
      exact ⟨ret_bool HF.out.symm, hal⟩
  · have j1 : ¬ (n : Int) < 1 := by omega
    have j2 : ¬ 5 < (n : Int) := by omega
    have hn5 : n ≤ 5 := by omega
    have HI := Lib.hid (show inB cs.length 1 5 = true by rw [HN.out, inB_iff]; omega)
    go_enter Tryd.func14, Tryd.ntmps14
    go_wp2_with fail
    clear q0
    go_loopw [4, 22] (fun _ i wr => ∃ k : Nat, k ≤ n ∧ i = .int .i64 k ∧ Hid ((cs.take k).all rusvalid = true) ∧ Below W.heap.size W wr) (fun _ i _ => n - (intOf i).toNat)
    case atStart => exact ⟨0, by omega, rfl, Lib.hid (by simp), Below.refl _ _⟩
    case round =>
      obtain ⟨k, hk, rfl, HG, hbr⟩ := hrel
      have hzr := hbr.size
      have c9 := (hbr.cell (p := ⟨w.heap.size, 0, none⟩) hl).trans HQ.out
      by_cases hlt : k < n
      · have i1 : (k : Int) < (n : Int) := by omega
        have i2 : (0 : Int) ≤ (k : Int) := by omega
        obtain ⟨l, hx⟩ : ∃ l, cs[k]? = some l := ⟨_, List.getElem?_eq_getElem (by rw [HN.out]; exact hlt)⟩
        obtain ⟨b, o, sv, rfl, hbl, c0, hsv⟩ := (HS.out.below hbr).at hx
        have HX := Lib.hid hx
        have HSV := Lib.hid hsv
        have HTR := Lib.hid (HT.out.below hbr)
        obtain ⟨r, hr⟩ : ∃ r, rusvalid l = r := ⟨_, rfl⟩
        have HR := Lib.hid hr
        clear hx hsv hr
        go_wp2_with fail
        refine (implRsV_b HSV.out HTR.out HR.out).mono ?_
        rintro e w2 ⟨rfl, hb2⟩
        have hb2' : Below W.heap.size W w2 := hbr.trans (hb2.mono hzr)
        clear hb2
        cases r
        · have HF := Lib.hid (show rsvalid cs = false by
            unfold rsvalid
            rw [List.all_eq_false.2 ⟨_, List.mem_of_getElem? HX.out, by rw [HR.out]; simp⟩]; simp)
          go_wp2
          go_ret
          exact ⟨ret_bool HF.out.symm, hal.trans (hb2'.mono hal.size)⟩
        · have HG2 := Lib.hid (show (cs.take (k + 1)).all rusvalid = true by rw [List.take_add_one, HX.out, Option.toList_some, List.all_append, HG.out, List.all_cons, HR.out]; simp)
          go_wp2
          go_roundw
          case rel => exact ⟨k + 1, by omega, by go_num, HG2, hb2'⟩
          case measure => simp [intOf]; omega
      · have HA := Lib.hid (show cs.all rusvalid = true by
          have := HG.out
          rwa [List.take_of_length_le (by rw [HN.out]; omega)] at this)
        have HAM := Lib.hid (show ∀ l, l ∈ cs → rusvalid l = true from List.all_eq_true.1 HA.out)
        clear HG
        obtain ⟨W0, hW0⟩ : ∃ W0, W0 = wr := ⟨_, rfl⟩
        subst hW0
        go_wp2_with fail
        go_loopw [6, 33] (fun _ i wr => ∃ k : Nat, k ≤ n ∧ i = .int .i64 k ∧ Hid ((cs.take k).all (fun l => (calls l).all (fun c => decide (c < n))) = true) ∧ Below W0.heap.size W0 wr) (fun _ i _ => n - (intOf i).toNat)
        case atStart => exact ⟨0, by omega, rfl, Lib.hid (by simp), Below.refl _ _⟩
        case round =>
          obtain ⟨j, hj, rfl, HG, hbs⟩ := hrel
          have hzs := hbs.size
          have hbW : Below W.heap.size W wr := hbr.trans (hbs.mono hzr)
          have d9 := (hbW.cell (p := ⟨w.heap.size, 0, none⟩) hl).trans HQ.out
          have hlw : w.heap.size < wr.heap.size := Nat.lt_of_lt_of_le hl hbW.size
          by_cases hlj : j < n
          · have i1 : (j : Int) < (n : Int) := by omega
            have i2 : (0 : Int) ≤ (j : Int) := by omega
            obtain ⟨l, hx⟩ : ∃ l, cs[j]? = some l := ⟨_, List.getElem?_eq_getElem (by rw [HN.out]; exact hlj)⟩
            obtain ⟨b, o, sv, rfl, hbl, c0, hsv⟩ := (HS.out.below hbW).at hx
            have HX := Lib.hid hx
            have HSV := Lib.hid hsv
            have HLO := Lib.hid (rusvalid_ok (HAM.out l (List.mem_of_getElem? hx)))
            clear hx hsv
            go_wp2_with fail
            refine (callsIn_any l sv wr HSV.out HLO.out).mono ?_
            rintro e w2 ⟨v2, rfl, ho2, hb2⟩
            have HI2 := Lib.hid ho2.ins
            obtain ⟨xa, xc, rfl, hxl, hxm⟩ := HI2.out.formI
            unfold maxLen at hxm
            rw [List.length_map] at HI2 hxl ⊢
            obtain ⟨xs, hxs⟩ : ∃ xs, calls l = xs := ⟨_, rfl⟩
            have HXS := Lib.hid hxs
            rw [hxs] at HI2 hxl ⊢
            obtain ⟨m, hm⟩ : ∃ m, xs.length = m := ⟨_, rfl⟩
            have HM := Lib.hid hm
            rw [hm] at HI2 hxl ⊢
            have hb2' : Below W0.heap.size W0 w2 := hbs.trans (hb2.mono hzs)
            have e9 := (hb2.cell (p := ⟨w.heap.size, 0, none⟩) hlw).trans d9
            have hlw2 := Nat.lt_of_lt_of_le hlw hb2.size
            clear ho2 hm hxs hb2
            have hw2s := hb2'.size
            obtain ⟨W2, hW2⟩ : ∃ W2, W2 = w2 := ⟨_, rfl⟩
            subst hW2
            go_wp2_with fail
            go_loopw [8, 40] (fun _ i wr => ∃ k : Nat, k ≤ m ∧ i = .int .i64 k ∧ Hid ((xs.take k).all (fun c => decide (c < n)) = true) ∧ wr = W2) (fun _ i _ => m - (intOf i).toNat)
            case atStart => exact ⟨0, by omega, rfl, Lib.hid (by simp), rfl⟩
            case round =>
              obtain ⟨p, hp, rfl, HP, rfl⟩ := hrel
              by_cases hlp : p < m
              · have p1 : (p : Int) < (m : Int) := by omega
                have p2 : (0 : Int) ≤ (p : Int) := by omega
                obtain ⟨x, hx⟩ : ∃ x, xs[p]? = some x := ⟨_, List.getElem?_eq_getElem (by rw [HM.out]; exact hlp)⟩
                obtain ⟨bb, oo, rfl, hbl2, d0⟩ := HI2.out.atI (k := p) (x := (x : Int)) (by rw [List.getElem?_map, hx]; rfl)
                have HXX := Lib.hid hx
                clear hx
                by_cases hxn : x < n
                · have x1 : ¬ (n : Int) ≤ (x : Int) := by omega
                  have HP2 := Lib.hid (show (xs.take (p + 1)).all (fun c => decide (c < n)) = true by rw [List.take_add_one, HXX.out, Option.toList_some, List.all_append, HP.out, List.all_cons, decide_eq_true hxn]; simp)
                  go_wp2
                  go_roundw
                  case rel => exact ⟨p + 1, by omega, by go_num, HP2, by first | rfl | trivial⟩
                  case measure => simp [intOf]; omega
                · have x1 : (n : Int) ≤ (x : Int) := by omega
                  have HF := Lib.hid (show rsvalid cs = false by
                    have hco : callsOk cs = false := by
                      unfold callsOk
                      rw [HN.out]
                      refine List.all_eq_false.2 ⟨l, List.mem_of_getElem? HX.out, ?_⟩
                      rw [HXS.out, List.all_eq_false.2 ⟨x, List.mem_of_getElem? HXX.out, by rw [decide_eq_false hxn]; simp⟩]
                      simp
                    unfold rsvalid
                    rw [hco]
                    simp)
                  go_wp2
                  go_ret
                  exact ⟨ret_bool HF.out.symm, hal.trans ((hbr.trans (hb2'.mono hzr)).mono hal.size)⟩
              · have HPF := Lib.hid (show (calls l).all (fun c => decide (c < n)) = true by
                  rw [HXS.out]
                  have := HP.out
                  rwa [List.take_of_length_le (by rw [HM.out]; omega)] at this)
                have HG2 := Lib.hid (show (cs.take (j + 1)).all (fun l => (calls l).all (fun c => decide (c < n))) = true by rw [List.take_add_one, HX.out, Option.toList_some, List.all_append, HG.out, List.all_cons, HPF.out]; simp)
                go_wp2
                go_roundw
                case rel => exact ⟨j + 1, by omega, by go_num, HG2, hb2'⟩
                case measure => simp [intOf]; omega
          · have HCO := Lib.hid (show callsOk cs = true by
              unfold callsOk
              rw [HN.out]
              have := HG.out
              rwa [List.take_of_length_le (by rw [HN.out]; omega)] at this)
            have HSR := Lib.hid (HS.out.below hbW)
            obtain ⟨R, hR⟩ : ∃ R, acycl cs 6 (List.range cs.length) [0, 0, 0, 0, 0] = R := ⟨_, rfl⟩
            have HRV := Lib.hid (show rsvalid cs = R by unfold rsvalid; rw [HI.out, HA.out, HCO.out, hR]; rfl)
            have HRR := Lib.hid hR
            clear hR
            go_wp2_with fail
            refine (acyclic_any cs (by rw [HN.out]; exact hn5) HAM.out _ wr HSR.out).mono ?_
            rw [HRR.out]
            rintro e w3 ⟨rfl, hb3⟩
            have hw3 : Below w.heap.size w w3 := (hal.trans (hbW.mono hal.size)).trans (hb3.mono (Nat.le_trans hal.size hbW.size))
            clear hb3
            go_wp2
            go_ret
            exact ⟨ret_bool HRV.out.symm, hw3⟩
theorem implRstV_b {lo : Nat} {cs : List (List Ru)} {acc : Bool} {v : Value} {w : World} {r : Bool} (hs : Rss lo w v cs) (ht : Tab w) (h : rsvalid cs = r) :
    Calls Tryd.prog 14 #[.agg #[v, .bool acc]] w fun e w' => e = .returned (.bool r) ∧ Below w.heap.size w w' := by
  subst h
  exact implRstV_any cs acc v w hs ht
end Go.Proofs.YtfcbbahlhjdefaaDoor
