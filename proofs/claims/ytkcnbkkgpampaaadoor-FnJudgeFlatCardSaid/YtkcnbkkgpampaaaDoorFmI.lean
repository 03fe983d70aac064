/- The first rule that has a packet: the program's walk. -/
import Derived.Test.YtkcnbkkgpampaaaDoorFmH
namespace Go.Proofs.YtkcnbkkgpampaaaDoor
open Go.RowKit
set_option maxHeartbeats 2000000 in
theorem fw1_b {lo B : Nat} {b : Bx} {v0 v1 v2 v3 : Value} {acc : Bool} {p1 p2 p3 p4 : Int} {w : World} {r : Bool} (hs : All2 (Sps lo w) [v0, v1, v2, v3] b) (hB : B < w.heap.size)
    (c0 : w.cell? ⟨B, 0, none⟩ = some (.int .i64 p1)) (c1 : w.cell? ⟨B, 1, none⟩ = some (.int .i64 p2)) (c2 : w.cell? ⟨B, 2, none⟩ = some (.int .i64 p3)) (c3 : w.cell? ⟨B, 3, none⟩ = some (.int .i64 p4)) (h : bhas b ⟨p1, p2, p3, p4⟩ = r) :
    Calls Tryd.prog 105 #[.agg #[v0, v1, v2, v3, .bool acc], .pointer (some ⟨B, 0, none⟩)] w fun e w' => e = .returned (.bool r) ∧ Below w.heap.size w w' := by
  have hal : Below w.heap.size w (w.alloc (.cells #[v0, v1, v2, v3, .bool acc] 104)) := by (repeat' (first | with_reducible exact Below.refl _ _ | with_reducible assumption | with_reducible refine Below.setCell ?_ ?_ _ | with_reducible refine Below.alloc ?_ ?_ _ | with_reducible refine Below.drew ?_ | with_reducible refine belDrewN ?_ _ | with_reducible refine Below.trans ?_ (Below.mono (by assumption) ?_) | omega | (simp; omega) | (simp; done)))
  obtain ⟨W, hW⟩ : ∃ W, w.alloc (.cells #[v0, v1, v2, v3, .bool acc] 104) = W := ⟨_, rfl⟩
  have q0 : W.cell? ⟨w.heap.size, 0, none⟩ = some v0 := by rw [← hW]; simp
  have q1 : W.cell? ⟨w.heap.size, 1, none⟩ = some v1 := by rw [← hW]; simp
  have q2 : W.cell? ⟨w.heap.size, 2, none⟩ = some v2 := by rw [← hW]; simp
  have q3 : W.cell? ⟨w.heap.size, 3, none⟩ = some v3 := by rw [← hW]; simp
  have qs : w.heap.size < W.heap.size := by rw [← hW]; simp
  rw [hW] at hal
  have d0 := (hal.cell (p := ⟨B, 0, none⟩) hB).trans c0
  have d1 := (hal.cell (p := ⟨B, 1, none⟩) hB).trans c1
  have d2 := (hal.cell (p := ⟨B, 2, none⟩) hB).trans c2
  have d3 := (hal.cell (p := ⟨B, 3, none⟩) hB).trans c3
  have hsW : All2 (Sps lo W) [v0, v1, v2, v3] b := hs.mono (fun _ _ h => h.below hal)
  have HS := Lib.hid hsW
  have HV := Lib.hid h
  clear h hs hsW c0 c1 c2 c3
  go_enter Tryd.func105, Tryd.ntmps105
  go_wp2_with fail
  refine (has_b HS.out HV.out).mono ?_
  rintro e w1 ⟨rfl, hb1⟩
  have hw1 : Below w.heap.size w w1 := hal.trans (hb1.mono hal.size)
  clear hb1
  go_wp2
  go_ret
  exact ⟨rfl, hw1⟩
set_option maxHeartbeats 2000000 in
theorem idxf_any {lo B : Nat} (fs : List Ft) (v : Value) (p1 p2 p3 p4 : Int) (w : World) (hs : Ifs lo w v fs) (hB : B < w.heap.size)
    (c0 : w.cell? ⟨B, 0, none⟩ = some (.int .i64 p1)) (c1 : w.cell? ⟨B, 1, none⟩ = some (.int .i64 p2)) (c2 : w.cell? ⟨B, 2, none⟩ = some (.int .i64 p3)) (c3 : w.cell? ⟨B, 3, none⟩ = some (.int .i64 p4)) :
    Calls Tryd.prog 104 #[v, .func (.func 105) #[] #[.pointer (some ⟨B, 0, none⟩)]] w
      fun e w' => e = .returned (.int .i64 (fwith fs ⟨p1, p2, p3, p4⟩ 0)) ∧ Below w.heap.size w w' := by
  obtain ⟨a, cap, rfl, hlc, hcm⟩ := hs.form
  unfold maxLen at hcm
  generalize hn : fs.length = n at *
  have HN := Lib.hid hn
  have HS := Lib.hid hs
  have HC := Lib.hid (And.intro c0 (And.intro c1 (And.intro c2 c3)))
  clear hn hs c0 c1 c2 c3
  go_enter Tryd.func104, Tryd.ntmps104
  go_wp2_with fail
  go_loopw [5, 8] (fun _ i wr => ∃ k : Nat, k ≤ n ∧ i = .int .i64 k ∧ Hid (∀ (j : Nat) g, j < k → fs[j]? = some g → bhas g.box ⟨p1, p2, p3, p4⟩ = false) ∧ Below w.heap.size w wr) (fun _ i _ => n - (intOf i).toNat)
  case atStart => exact ⟨0, by omega, rfl, Lib.hid (fun i g hi => by omega), Below.refl _ _⟩
  case round =>
    obtain ⟨k, hk, rfl, HG, hbr⟩ := hrel
    have hzr := hbr.size
    by_cases hlt : k < n
    · have i1 : (k : Int) < n := by omega
      have i2 : (0 : Int) ≤ (k : Int) := by omega
      obtain ⟨f, hx⟩ : ∃ f, fs[k]? = some f := ⟨_, List.getElem?_eq_getElem (by rw [HN.out]; exact hlt)⟩
      obtain ⟨b, o, v0, v1, v2, v3, rfl, hbl, g0, g1, g2, g3, g4, hss⟩ := (HS.out.below hbr).at hx
      have HX := Lib.hid hx
      have HSS := Lib.hid hss
      have e0 := (hbr.cell (p := ⟨B, 0, none⟩) hB).trans HC.out.1
      have e1 := (hbr.cell (p := ⟨B, 1, none⟩) hB).trans HC.out.2.1
      have e2 := (hbr.cell (p := ⟨B, 2, none⟩) hB).trans HC.out.2.2.1
      have e3 := (hbr.cell (p := ⟨B, 3, none⟩) hB).trans HC.out.2.2.2
      clear hx hss
      obtain ⟨r, hv2⟩ : ∃ r, bhas f.box ⟨p1, p2, p3, p4⟩ = r := ⟨_, rfl⟩
      have HV := Lib.hid hv2
      clear hv2
      go_wp2_with fail
      refine (fw1_b HSS.out (Nat.lt_of_lt_of_le hB hzr) e0 e1 e2 e3 HV.out).mono ?_
      rintro e w9 ⟨rfl, hb9⟩
      have hw9 : Below w.heap.size w w9 := hbr.trans (hb9.mono hzr)
      clear hb9
      cases r
      · go_wp2
        go_roundw
        case rel =>
          refine ⟨k + 1, by omega, by go_num, Lib.hid (fun j g hj hg => ?_), hw9⟩
          by_cases e : j = k
          · subst e
            rw [HX.out] at hg
            cases hg
            exact HV.out
          · exact HG.out j g (by omega) hg
        case measure => simp [intOf]; omega
      · go_wp2
        go_ret
        exact ⟨by rw [fwith_hit fs k 0 f HG.out HX.out HV.out]; simp, hw9⟩
    · have hkn : k = n := by omega
      subst hkn
      go_wp2
      go_ret
      refine ⟨?_, hbr⟩
      rw [fwith_none fs 0 (fun i g hg => HG.out i g (by rw [← HN.out]; exact (List.getElem?_eq_some_iff.1 hg).1) hg)]
      rfl
set_option maxHeartbeats 1000000 in
theorem firstWith_any {lo : Nat} (fs : List Ft) (v : Value) (p1 p2 p3 p4 : Int) (w : World) (hs : Ifs lo w v fs) :
    Calls Tryd.prog 71 #[v, .agg #[.int .i64 p1, .int .i64 p2, .int .i64 p3, .int .i64 p4]] w
      fun e w' => e = .returned (.int .i64 (fwith fs ⟨p1, p2, p3, p4⟩ 0)) ∧ Below w.heap.size w w' := by
  have hal : Below w.heap.size w (w.alloc (.cells #[.int .i64 p1, .int .i64 p2, .int .i64 p3, .int .i64 p4] 32)) := by (repeat' (first | with_reducible exact Below.refl _ _ | with_reducible assumption | with_reducible refine Below.setCell ?_ ?_ _ | with_reducible refine Below.alloc ?_ ?_ _ | with_reducible refine Below.drew ?_ | with_reducible refine belDrewN ?_ _ | with_reducible refine Below.trans ?_ (Below.mono (by assumption) ?_) | omega | (simp; omega) | (simp; done)))
  have hc := idxf_any (B := w.heap.size) fs v p1 p2 p3 p4 _ (hs.below hal) (by simp) (by simp) (by simp) (by simp) (by simp)
  generalize fwith fs ⟨p1, p2, p3, p4⟩ 0 = r at hc ⊢
  go_enter Tryd.func71, Tryd.ntmps71
  go_wp2_with fail
  refine hc.mono ?_
  rintro e w1 ⟨rfl, hb1⟩
  have hw1 : Below w.heap.size w w1 := hal.trans (hb1.mono hal.size)
  clear hb1 hal
  go_wp2
  go_ret
  exact ⟨rfl, hw1⟩
end Go.Proofs.YtkcnbkkgpampaaaDoor
