/- The reference's Judge, and the program's JudgedBy. -/
import Derived.Test.YtfcbbahlhjdefaaDoorJwY
import Derived.Test.YtfcbbahlhjdefaaDoorQuW
import Derived.Test.YtfcbbahlhjdefaaDoorSpW
/- The program's judgement. -/
namespace Go.Proofs.YtfcbbahlhjdefaaDoor
open Go.RowKit
set_option maxHeartbeats 2000000 in
set_option maxRecDepth 100000 in
theorem judgeValid_b {lo : Nat} {cs : List (List Ru)} {v : Value} {acc q : Bool} {a b c d : Int} (w : World) (hs : Rss lo w v cs) (hv : rsvalid cs = true) (hq : (jwalk cs ⟨a, b, c, d⟩ 6 0).getD acc = q) :
    Calls Tryd.prog 16 #[.agg #[v, .bool acc], .agg #[.int .i64 a, .int .i64 b, .int .i64 c, .int .i64 d]] w fun e w' => e = .returned (.bool q) ∧ Below w.heap.size w w' := by
  obtain ⟨va, vc, rfl, -, -⟩ := hs.form
  obtain ⟨n, hn⟩ : ∃ n, cs.length = n := ⟨_, rfl⟩
  rw [hn] at hs ⊢
  obtain ⟨W, hW⟩ : ∃ W, (w.alloc (.cells #[.slice va n vc, .bool acc] 25)).alloc (.cells #[.int .i64 a, .int .i64 b, .int .i64 c, .int .i64 d] 27) = W := ⟨_, rfl⟩
  have hal : Below w.heap.size w W := by rw [← hW]; (repeat' (first | with_reducible exact Below.refl _ _ | with_reducible assumption | with_reducible refine Below.setCell ?_ ?_ _ | with_reducible refine Below.alloc ?_ ?_ _ | with_reducible refine Below.drew ?_ | with_reducible refine belDrewN ?_ _ | with_reducible refine Below.trans ?_ (Below.mono (by assumption) ?_) | omega | (simp; omega) | (simp; done)))
  have HA := alloc2_cells w #[.slice va n vc, .bool acc] #[.int .i64 a, .int .i64 b, .int .i64 c, .int .i64 d] 25 27
  rw [hW] at HA
  have c0 : W.cell? ⟨w.heap.size, 0, none⟩ = some (.slice va n vc) := (HA.1 0).1
  have c1 : W.cell? ⟨w.heap.size, 1, none⟩ = some (.bool acc) := (HA.1 1).1
  have p0 : W.cell? ⟨w.heap.size + 1, 0, none⟩ = some (.int .i64 a) := (HA.2 0).1
  have p1 : W.cell? ⟨w.heap.size + 1, 1, none⟩ = some (.int .i64 b) := (HA.2 1).1
  have p2 : W.cell? ⟨w.heap.size + 1, 2, none⟩ = some (.int .i64 c) := (HA.2 2).1
  have p3 : W.cell? ⟨w.heap.size + 1, 3, none⟩ = some (.int .i64 d) := (HA.2 3).1
  have hzW : w.heap.size < W.heap.size := by rw [← hW]; simp; omega
  have HS := Lib.hid (hs.below hal)
  have HV := Lib.hid hv
  have HQ := Lib.hid hq
  have HAL := Lib.hid hal
  clear HA hs hv hq hal hn
  go_enter Tryd.func16, Tryd.ntmps16
  go_wp2_with fail
  refine (walkThrough_any W HS.out HV.out).mono ?_
  rintro e w1 ⟨U, dec, rfl, hU, hc, hd, hb1⟩
  clear hW
  have k1 := (hb1.cell (p := ⟨w.heap.size, 1, none⟩) hzW).trans c1
  have HB1 := Lib.hid (HAL.out.trans (hb1.mono HAL.out.size))
  clear hb1 c0 c1 p0 p1 p2 p3
  rcases hd with ⟨rfl, hj⟩ | ⟨rfl, hj⟩ | ⟨rfl, hj⟩
  · have HE := Lib.hid (show q = true by rw [← HQ.out, hj]; rfl)
    clear hj
    go_wp2
    go_ret
    exact ⟨by rw [HE.out]; rfl, HB1.out⟩
  · have HE := Lib.hid (show q = false by rw [← HQ.out, hj]; rfl)
    clear hj
    go_wp2
    go_ret
    exact ⟨by rw [HE.out]; rfl, HB1.out⟩
  · have HE := Lib.hid (show q = acc by rw [← HQ.out, hj]; rfl)
    clear hj
    go_wp2
    go_ret
    exact ⟨by rw [HE.out]; rfl, HB1.out⟩
set_option maxHeartbeats 2000000 in
set_option maxRecDepth 100000 in
theorem implJudge_b {lo : Nat} {cs : List (List Ru)} {v : Value} {acc q : Bool} {a b c d : Int} {w : World} (hs : Rss lo w v cs) (ht : Tab w) (hq : jd cs 6 acc ⟨a, b, c, d⟩ = q) :
    Calls Tryd.prog 5 #[.agg #[v, .bool acc], .agg #[.int .i64 a, .int .i64 b, .int .i64 c, .int .i64 d]] w fun e w' => e = .returned (.bool q) ∧ Below w.heap.size w w' := by
  obtain ⟨va, vc, rfl, -, -⟩ := hs.form
  obtain ⟨n, hn⟩ : ∃ n, cs.length = n := ⟨_, rfl⟩
  rw [hn] at hs ⊢
  obtain ⟨W, hW⟩ : ∃ W, (w.alloc (.cells #[.slice va n vc, .bool acc] 25)).alloc (.cells #[.int .i64 a, .int .i64 b, .int .i64 c, .int .i64 d] 27) = W := ⟨_, rfl⟩
  have hal : Below w.heap.size w W := by rw [← hW]; (repeat' (first | with_reducible exact Below.refl _ _ | with_reducible assumption | with_reducible refine Below.setCell ?_ ?_ _ | with_reducible refine Below.alloc ?_ ?_ _ | with_reducible refine Below.drew ?_ | with_reducible refine belDrewN ?_ _ | with_reducible refine Below.trans ?_ (Below.mono (by assumption) ?_) | omega | (simp; omega) | (simp; done)))
  have HA := alloc2_cells w #[.slice va n vc, .bool acc] #[.int .i64 a, .int .i64 b, .int .i64 c, .int .i64 d] 25 27
  rw [hW] at HA
  have c0 : W.cell? ⟨w.heap.size, 0, none⟩ = some (.slice va n vc) := (HA.1 0).1
  have c1 : W.cell? ⟨w.heap.size, 1, none⟩ = some (.bool acc) := (HA.1 1).1
  have p0 : W.cell? ⟨w.heap.size + 1, 0, none⟩ = some (.int .i64 a) := (HA.2 0).1
  have p1 : W.cell? ⟨w.heap.size + 1, 1, none⟩ = some (.int .i64 b) := (HA.2 1).1
  have p2 : W.cell? ⟨w.heap.size + 1, 2, none⟩ = some (.int .i64 c) := (HA.2 2).1
  have p3 : W.cell? ⟨w.heap.size + 1, 3, none⟩ = some (.int .i64 d) := (HA.2 3).1
  have hzW : w.heap.size + 1 < W.heap.size := by rw [← hW]; simp
  have HS := Lib.hid (hs.below hal)
  have HT := Lib.hid (ht.below hal)
  obtain ⟨rv, hrv⟩ : ∃ rv, rsvalid cs = rv := ⟨_, rfl⟩
  obtain ⟨pv, hpv⟩ : ∃ pv, Pk.ok ⟨a, b, c, d⟩ = pv := ⟨_, rfl⟩
  have HV := Lib.hid hrv
  have HP := Lib.hid hpv
  have HQ := Lib.hid hq
  have HAL := Lib.hid hal
  have HK := Lib.hid (show ∀ w1, Below W.heap.size W w1 → w1.cell? ⟨w.heap.size, 0, none⟩ = some (.slice va n vc) ∧ w1.cell? ⟨w.heap.size, 1, none⟩ = some (.bool acc) ∧ w1.cell? ⟨w.heap.size + 1, 0, none⟩ = some (.int .i64 a) ∧ w1.cell? ⟨w.heap.size + 1, 1, none⟩ = some (.int .i64 b) ∧ w1.cell? ⟨w.heap.size + 1, 2, none⟩ = some (.int .i64 c) ∧ w1.cell? ⟨w.heap.size + 1, 3, none⟩ = some (.int .i64 d) from fun w1 hb =>
    ⟨(hb.cell (p := ⟨w.heap.size, 0, none⟩) (by simp only; omega)).trans c0, (hb.cell (p := ⟨w.heap.size, 1, none⟩) (by simp only; omega)).trans c1, (hb.cell (p := ⟨w.heap.size + 1, 0, none⟩) hzW).trans p0, (hb.cell (p := ⟨w.heap.size + 1, 1, none⟩) hzW).trans p1, (hb.cell (p := ⟨w.heap.size + 1, 2, none⟩) hzW).trans p2, (hb.cell (p := ⟨w.heap.size + 1, 3, none⟩) hzW).trans p3⟩)
  clear HA hs ht hrv hpv hq hal hn
  go_enter Tryd.func5, Tryd.ntmps5
  go_wp2_with fail
  refine (implRstV_b HS.out HT.out HV.out).mono ?_
  rintro e w1 ⟨rfl, hb1⟩
  clear hW
  have HB1 := Lib.hid hb1
  have hw1 := HAL.out.trans (hb1.mono HAL.out.size)
  clear hb1 c0 c1 p0 p1 p2 p3
  cases rv
  · have HE := Lib.hid (show q = false by rw [← HQ.out]; unfold jd; rw [HV.out]; rfl)
    go_wp2
    go_ret
    exact ⟨by rw [HE.out]; rfl, hw1⟩
  · obtain ⟨k0, k1, e0, e1, e2, e3⟩ := HK.out w1 HB1.out
    have HW1 := Lib.hid hw1
    clear hw1
    go_wp2_with fail
    refine (pv_b HP.out (HT.out.below HB1.out)).mono ?_
    rintro e w2 ⟨rfl, hb2⟩
    have HB2 := Lib.hid (HB1.out.trans (hb2.mono HB1.out.size))
    have hw2 := HW1.out.trans (hb2.mono HW1.out.size)
    clear hb2 k0 k1 e0 e1 e2 e3
    cases pv
    · have HE := Lib.hid (show q = false by rw [← HQ.out]; unfold jd; rw [HV.out, HP.out]; rfl)
      go_wp2
      go_ret
      exact ⟨by rw [HE.out]; rfl, hw2⟩
    · obtain ⟨k0, k1, e0, e1, e2, e3⟩ := HK.out w2 HB2.out
      have HE := Lib.hid (show (jwalk cs ⟨a, b, c, d⟩ 6 0).getD acc = q by rw [← HQ.out]; unfold jd; rw [HV.out, HP.out]; rfl)
      have HW2 := Lib.hid hw2
      clear hw2
      go_wp2_with fail
      refine (judgeValid_b w2 (HS.out.below HB2.out) HV.out HE.out).mono ?_
      rintro e w3 ⟨rfl, hb3⟩
      have HW3 := Lib.hid (HW2.out.trans (hb3.mono HW2.out.size))
      clear hb3
      go_wp2
      go_ret
      exact ⟨rfl, HW3.out⟩
end Go.Proofs.YtfcbbahlhjdefaaDoor
namespace Go.Proofs.YtfcbbahlhjdefaaDoor
open Go.RowKit
set_option maxHeartbeats 2000000 in
set_option maxRecDepth 100000 in
theorem specJudge_b {lo : Nat} {cs : List (List Ru)} {v : Value} {acc q : Bool} {a b c d : Int} {w : World} (hs : Rss lo w v cs) (hq : jd cs 6 acc ⟨a, b, c, d⟩ = q) :
    Calls Tryd.prog 6 #[.agg #[v, .bool acc], .agg #[.int .i64 a, .int .i64 b, .int .i64 c, .int .i64 d]] w fun e w' => e = .returned (.bool q) ∧ Below w.heap.size w w' := by
  obtain ⟨va, vc, rfl, -, -⟩ := hs.form
  obtain ⟨n, hn⟩ : ∃ n, cs.length = n := ⟨_, rfl⟩
  rw [hn] at hs ⊢
  obtain ⟨W, hW⟩ : ∃ W, (w.alloc (.cells #[.slice va n vc, .bool acc] 25)).alloc (.cells #[.int .i64 a, .int .i64 b, .int .i64 c, .int .i64 d] 27) = W := ⟨_, rfl⟩
  have hal : Below w.heap.size w W := by rw [← hW]; (repeat' (first | with_reducible exact Below.refl _ _ | with_reducible assumption | with_reducible refine Below.setCell ?_ ?_ _ | with_reducible refine Below.alloc ?_ ?_ _ | with_reducible refine Below.drew ?_ | with_reducible refine belDrewN ?_ _ | with_reducible refine Below.trans ?_ (Below.mono (by assumption) ?_) | omega | (simp; omega) | (simp; done)))
  have HA := alloc2_cells w #[.slice va n vc, .bool acc] #[.int .i64 a, .int .i64 b, .int .i64 c, .int .i64 d] 25 27
  rw [hW] at HA
  have c0 : W.cell? ⟨w.heap.size, 0, none⟩ = some (.slice va n vc) := (HA.1 0).1
  have c1 : W.cell? ⟨w.heap.size, 1, none⟩ = some (.bool acc) := (HA.1 1).1
  have p0 : W.cell? ⟨w.heap.size + 1, 0, none⟩ = some (.int .i64 a) := (HA.2 0).1
  have p1 : W.cell? ⟨w.heap.size + 1, 1, none⟩ = some (.int .i64 b) := (HA.2 1).1
  have p2 : W.cell? ⟨w.heap.size + 1, 2, none⟩ = some (.int .i64 c) := (HA.2 2).1
  have p3 : W.cell? ⟨w.heap.size + 1, 3, none⟩ = some (.int .i64 d) := (HA.2 3).1
  have hzW : w.heap.size + 1 < W.heap.size := by rw [← hW]; simp
  have HS := Lib.hid (hs.below hal)
  obtain ⟨rv, hrv⟩ : ∃ rv, rsvalid cs = rv := ⟨_, rfl⟩
  obtain ⟨pv, hpv⟩ : ∃ pv, Pk.ok ⟨a, b, c, d⟩ = pv := ⟨_, rfl⟩
  have HN := Lib.hid hn
  have HV := Lib.hid hrv
  have HP := Lib.hid hpv
  have HQ := Lib.hid hq
  have HAL := Lib.hid hal
  have HK := Lib.hid (show ∀ w1, Below W.heap.size W w1 → w1.cell? ⟨w.heap.size, 0, none⟩ = some (.slice va n vc) ∧ w1.cell? ⟨w.heap.size, 1, none⟩ = some (.bool acc) ∧ w1.cell? ⟨w.heap.size + 1, 0, none⟩ = some (.int .i64 a) ∧ w1.cell? ⟨w.heap.size + 1, 1, none⟩ = some (.int .i64 b) ∧ w1.cell? ⟨w.heap.size + 1, 2, none⟩ = some (.int .i64 c) ∧ w1.cell? ⟨w.heap.size + 1, 3, none⟩ = some (.int .i64 d) from fun w1 hb =>
    ⟨(hb.cell (p := ⟨w.heap.size, 0, none⟩) (by simp only; omega)).trans c0, (hb.cell (p := ⟨w.heap.size, 1, none⟩) (by simp only; omega)).trans c1, (hb.cell (p := ⟨w.heap.size + 1, 0, none⟩) hzW).trans p0, (hb.cell (p := ⟨w.heap.size + 1, 1, none⟩) hzW).trans p1, (hb.cell (p := ⟨w.heap.size + 1, 2, none⟩) hzW).trans p2, (hb.cell (p := ⟨w.heap.size + 1, 3, none⟩) hzW).trans p3⟩)
  clear HA hs hrv hpv hq hal hn
  go_enter Tryd.func6, Tryd.ntmps6
  go_wp2_with fail
  refine (specRstV_b HS.out HV.out).mono ?_
  rintro e w1 ⟨rfl, hb1⟩
  clear hW
  have HB1 := Lib.hid hb1
  have hw1 := HAL.out.trans (hb1.mono HAL.out.size)
  clear hb1 c0 c1 p0 p1 p2 p3
  cases rv
  · have HE := Lib.hid (show q = false by rw [← HQ.out]; unfold jd; rw [HV.out]; rfl)
    go_wp2
    go_ret
    exact ⟨by rw [HE.out]; rfl, hw1⟩
  · obtain ⟨k0, k1, e0, e1, e2, e3⟩ := HK.out w1 HB1.out
    have HW1 := Lib.hid hw1
    clear hw1
    go_wp2_with fail
    refine (specPV_b HP.out _).mono ?_
    rintro e w2 ⟨rfl, hb2⟩
    have HB2 := Lib.hid (HB1.out.trans (hb2.mono HB1.out.size))
    have hw2 := HW1.out.trans (hb2.mono HW1.out.size)
    clear hb2 k0 k1 e0 e1 e2 e3
    cases pv
    · have HE := Lib.hid (show q = false by rw [← HQ.out]; unfold jd; rw [HV.out, HP.out]; rfl)
      go_wp2
      go_ret
      exact ⟨by rw [HE.out]; rfl, hw2⟩
    · have HE := Lib.hid (show (jwalk cs ⟨a, b, c, d⟩ 6 0).getD acc = q by rw [← HQ.out]; unfold jd; rw [HV.out, HP.out]; rfl)
      have HW2 := Lib.hid hw2
      have hz2 := HB2.out.size
      obtain ⟨V, hV⟩ : ∃ V, (w2.alloc (.cells #[] 77)).alloc (.cells #[.slice (some ⟨w2.heap.size, 0, none⟩) 0 0] 46) = V := ⟨_, rfl⟩
      have halV : Below w2.heap.size w2 V := by rw [← hV]; (repeat' (first | with_reducible exact Below.refl _ _ | with_reducible assumption | with_reducible refine Below.setCell ?_ ?_ _ | with_reducible refine Below.alloc ?_ ?_ _ | with_reducible refine Below.drew ?_ | with_reducible refine belDrewN ?_ _ | with_reducible refine Below.trans ?_ (Below.mono (by assumption) ?_) | omega | (simp; omega) | (simp; done)))
      have hA2 := alloc2_cells w2 #[] #[.slice (some ⟨w2.heap.size, 0, none⟩) 0 0] 77 46
      rw [hV] at hA2
      have HLO := litOwn 77 2 encP (base := w2.heap.size) (w := w2) (Nat.le_refl _)
      have hzV : w2.heap.size + 1 < V.heap.size := by rw [← hV]; simp
      have HVS := Lib.hid (show Vs w2.heap.size (w2.heap.size + 1) V (.slice (some ⟨w2.heap.size, 0, none⟩) 0 0) [] from
        ⟨by omega, hzV, (hA2.2 0).1.trans rfl, fun j => (hA2.2 j).2, by rw [← hV]; exact OwnSl.kept HLO ((Below.refl _ _).alloc (Nat.le_refl _) _), by simp [Value.ownBlock]⟩)
      have HBV := Lib.hid (HB2.out.trans (halV.mono hz2))
      obtain ⟨k0, k1, e0, e1, e2, e3⟩ := HK.out V HBV.out
      obtain ⟨hci, hn1, -, -, -⟩ := rsvalid_in HV.out
      have HCALL := Lib.hid (l9Walk_any (acc := acc) W HN.out HS.out hci (rs_rules HV.out) (rs_chain HV.out) HP.out (show W.heap.size ≤ w2.heap.size from hz2) 6 0 (w2.heap.size + 1) _ [] V (rs_six HV.out) (by rw [HN.out] at hn1; omega) HBV.out HVS.out (by simp))
      obtain ⟨R, hR⟩ : ∃ R, jwalk cs ⟨a, b, c, d⟩ 6 0 = R := ⟨_, rfl⟩
      rw [hR] at HCALL HE
      have HHV := Lib.hid halV
      clear hw2 halV hA2 HLO hR hci hn1
      go_wp2_with fail
      clear hV
      refine HCALL.out.mono ?_
      rintro e w6 ⟨ov6, vs6, rfl, -, -, -, hb6⟩
      have HW6 := Lib.hid (HW2.out.trans ((HHV.out.trans hb6).mono HW2.out.size))
      have HB6 := Lib.hid (HBV.out.trans (hb6.mono hz2))
      clear hb6 k0 k1 e0 e1 e2 e3
      obtain ⟨k0, k1, -⟩ := HK.out w6 HB6.out
      cases R with
      | none =>
        have HF := Lib.hid (show q = acc from HE.out.symm)
        have ha : acode none = 5 := rfl
        rw [ha]
        go_wp2
        go_ret
        exact ⟨by rw [HF.out]; rfl, HW6.out⟩
      | some x =>
        cases x
        · have HF := Lib.hid (show q = false from HE.out.symm)
          have ha : acode (some false) = 2 := rfl
          rw [ha]
          go_wp2
          go_ret
          exact ⟨by rw [HF.out]; rfl, HW6.out⟩
        · have HF := Lib.hid (show q = true from HE.out.symm)
          have ha : acode (some true) = 1 := rfl
          rw [ha]
          go_wp2
          go_ret
          exact ⟨by rw [HF.out]; rfl, HW6.out⟩
set_option maxHeartbeats 2000000 in
set_option maxRecDepth 100000 in
theorem implJBy_b {lo : Nat} {cs : List (List Ru)} {v : Value} {acc : Bool} {a b c d : Int} {w : World} (hs : Rss lo w v cs) (ht : Tab w) (hv : rsvalid cs = true) (hp : Pk.ok ⟨a, b, c, d⟩ = true) (hj : jwalk cs ⟨a, b, c, d⟩ 6 0 = none) :
    Calls Tryd.prog 10 #[.agg #[v, .bool acc], .agg #[.int .i64 a, .int .i64 b, .int .i64 c, .int .i64 d]] w fun e w' => e = .returned (.int .i64 5) ∧ Below w.heap.size w w' := by
  obtain ⟨va, vc, rfl, -, -⟩ := hs.form
  obtain ⟨n, hn⟩ : ∃ n, cs.length = n := ⟨_, rfl⟩
  rw [hn] at hs ⊢
  obtain ⟨W, hW⟩ : ∃ W, (w.alloc (.cells #[.slice va n vc, .bool acc] 25)).alloc (.cells #[.int .i64 a, .int .i64 b, .int .i64 c, .int .i64 d] 27) = W := ⟨_, rfl⟩
  have hal : Below w.heap.size w W := by rw [← hW]; (repeat' (first | with_reducible exact Below.refl _ _ | with_reducible assumption | with_reducible refine Below.setCell ?_ ?_ _ | with_reducible refine Below.alloc ?_ ?_ _ | with_reducible refine Below.drew ?_ | with_reducible refine belDrewN ?_ _ | with_reducible refine Below.trans ?_ (Below.mono (by assumption) ?_) | omega | (simp; omega) | (simp; done)))
  have HA := alloc2_cells w #[.slice va n vc, .bool acc] #[.int .i64 a, .int .i64 b, .int .i64 c, .int .i64 d] 25 27
  rw [hW] at HA
  have c0 : W.cell? ⟨w.heap.size, 0, none⟩ = some (.slice va n vc) := (HA.1 0).1
  have c1 : W.cell? ⟨w.heap.size, 1, none⟩ = some (.bool acc) := (HA.1 1).1
  have p0 : W.cell? ⟨w.heap.size + 1, 0, none⟩ = some (.int .i64 a) := (HA.2 0).1
  have p1 : W.cell? ⟨w.heap.size + 1, 1, none⟩ = some (.int .i64 b) := (HA.2 1).1
  have p2 : W.cell? ⟨w.heap.size + 1, 2, none⟩ = some (.int .i64 c) := (HA.2 2).1
  have p3 : W.cell? ⟨w.heap.size + 1, 3, none⟩ = some (.int .i64 d) := (HA.2 3).1
  have hzW : w.heap.size + 1 < W.heap.size := by rw [← hW]; simp
  have HS := Lib.hid (hs.below hal)
  have HT := Lib.hid (ht.below hal)
  have HV := Lib.hid hv
  have HP := Lib.hid hp
  have HJ := Lib.hid hj
  have HAL := Lib.hid hal
  have HK := Lib.hid (show ∀ w1, Below W.heap.size W w1 → w1.cell? ⟨w.heap.size, 0, none⟩ = some (.slice va n vc) ∧ w1.cell? ⟨w.heap.size, 1, none⟩ = some (.bool acc) ∧ w1.cell? ⟨w.heap.size + 1, 0, none⟩ = some (.int .i64 a) ∧ w1.cell? ⟨w.heap.size + 1, 1, none⟩ = some (.int .i64 b) ∧ w1.cell? ⟨w.heap.size + 1, 2, none⟩ = some (.int .i64 c) ∧ w1.cell? ⟨w.heap.size + 1, 3, none⟩ = some (.int .i64 d) from fun w1 hb =>
    ⟨(hb.cell (p := ⟨w.heap.size, 0, none⟩) (by simp only; omega)).trans c0, (hb.cell (p := ⟨w.heap.size, 1, none⟩) (by simp only; omega)).trans c1, (hb.cell (p := ⟨w.heap.size + 1, 0, none⟩) hzW).trans p0, (hb.cell (p := ⟨w.heap.size + 1, 1, none⟩) hzW).trans p1, (hb.cell (p := ⟨w.heap.size + 1, 2, none⟩) hzW).trans p2, (hb.cell (p := ⟨w.heap.size + 1, 3, none⟩) hzW).trans p3⟩)
  clear HA hs ht hv hp hj hal hn
  go_enter Tryd.func10, Tryd.ntmps10
  go_wp2_with fail
  refine (implRstV_b HS.out HT.out HV.out).mono ?_
  rintro e w1 ⟨rfl, hb1⟩
  clear hW
  have HB1 := Lib.hid hb1
  have HW1 := Lib.hid (HAL.out.trans (hb1.mono HAL.out.size))
  clear hb1 c0 c1 p0 p1 p2 p3
  obtain ⟨k0, k1, e0, e1, e2, e3⟩ := HK.out w1 HB1.out
  go_wp2_with fail
  refine (pv_b HP.out (HT.out.below HB1.out)).mono ?_
  rintro e w2 ⟨rfl, hb2⟩
  have HB2 := Lib.hid (HB1.out.trans (hb2.mono HB1.out.size))
  have HW2 := Lib.hid (HW1.out.trans (hb2.mono HW1.out.size))
  clear hb2 k0 k1 e0 e1 e2 e3
  obtain ⟨k0, k1, e0, e1, e2, e3⟩ := HK.out w2 HB2.out
  go_wp2_with fail
  refine (walkThrough_any w2 (HS.out.below HB2.out) HV.out).mono ?_
  rintro e w3 ⟨U, dec, rfl, hU, hc, hd, hb3⟩
  have HW3 := Lib.hid (HW2.out.trans (hb3.mono HW2.out.size))
  obtain rfl : dec = 5 := by
    rcases hd with ⟨-, h⟩ | ⟨-, h⟩ | ⟨h, -⟩
    · rw [HJ.out] at h; cases h
    · rw [HJ.out] at h; cases h
    · exact h
  clear hb3 hd k0 k1 e0 e1 e2 e3
  go_wp2
  go_ret
  exact ⟨rfl, HW3.out⟩
end Go.Proofs.YtfcbbahlhjdefaaDoor
