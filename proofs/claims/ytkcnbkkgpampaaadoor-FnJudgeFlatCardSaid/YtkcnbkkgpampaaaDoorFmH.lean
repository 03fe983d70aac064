/- Whether a packet is in a box: the program's walk. -/
import Derived.Test.YtkcnbkkgpampaaaDoorFmDb
namespace Go.Proofs.YtkcnbkkgpampaaaDoor
open Go.RowKit
set_option maxHeartbeats 2000000 in
theorem has_any {lo : Nat} (b : Bx) (v0 v1 v2 v3 : Value) (p1 p2 p3 p4 : Int) (w : World) (hs : All2 (Sps lo w) [v0, v1, v2, v3] b) :
    Calls Tryd.prog 87 #[.agg #[v0, v1, v2, v3], .agg #[.int .i64 p1, .int .i64 p2, .int .i64 p3, .int .i64 p4]] w fun e w' => e = .returned (.bool (bhas b ⟨p1, p2, p3, p4⟩)) ∧ Below w.heap.size w w' := by
  have hal : Below w.heap.size w ((w.alloc (.cells #[v0, v1, v2, v3] 102)).alloc (.cells #[.int .i64 p1, .int .i64 p2, .int .i64 p3, .int .i64 p4] 32)) := by (repeat' (first | with_reducible exact Below.refl _ _ | with_reducible assumption | with_reducible refine Below.setCell ?_ ?_ _ | with_reducible refine Below.alloc ?_ ?_ _ | with_reducible refine Below.drew ?_ | with_reducible refine belDrewN ?_ _ | with_reducible refine Below.trans ?_ (Below.mono (by assumption) ?_) | omega | (simp; omega) | (simp; done)))
  obtain ⟨W, hW⟩ : ∃ W, (w.alloc (.cells #[v0, v1, v2, v3] 102)).alloc (.cells #[.int .i64 p1, .int .i64 p2, .int .i64 p3, .int .i64 p4] 32) = W := ⟨_, rfl⟩
  have HQ := Lib.hid (show ∀ (k : Nat) v, [v0, v1, v2, v3][k]? = some v → W.cell? ⟨w.heap.size, k, none⟩ = some v from fun k v hk => by
    rw [← hW]
    match k, hk with
    | 0, hk => cases hk; simp
    | 1, hk => cases hk; simp
    | 2, hk => cases hk; simp
    | 3, hk => cases hk; simp
    | k + 4, hk => simp at hk)
  have r0 : W.cell? ⟨w.heap.size + 1, 0, none⟩ = some (.int .i64 p1) := by rw [← hW]; simp
  have r1 : W.cell? ⟨w.heap.size + 1, 1, none⟩ = some (.int .i64 p2) := by rw [← hW]; simp
  have r2 : W.cell? ⟨w.heap.size + 1, 2, none⟩ = some (.int .i64 p3) := by rw [← hW]; simp
  have r3 : W.cell? ⟨w.heap.size + 1, 3, none⟩ = some (.int .i64 p4) := by rw [← hW]; simp
  have qs : w.heap.size < W.heap.size := by rw [← hW]; simp; omega
  rw [hW] at hal
  have h4 : b.length = 4 := hs.1.symm
  have H4 := Lib.hid h4
  clear h4
  have hsW : All2 (Sps lo W) [v0, v1, v2, v3] b := hs.mono (fun _ _ h => h.below hal)
  go_enter Tryd.func87, Tryd.ntmps87
  go_wp2_with fail
  refine (fields_any p1 p2 p3 p4 _).mono ?_
  rintro e w1 ⟨rfl, hb1⟩
  have hW1 : Below W.heap.size W w1 := hb1
  have HS1 := Lib.hid (hsW.mono (fun _ _ h => h.below hb1))
  have hz1 := hb1.size
  clear hb1 hsW hs hW
  go_wp2_with fail
  go_loopw [5, 6, 9] (fun _ _ i wr => ∃ k : Nat, k ≤ 4 ∧ i = .int .i64 k ∧ BH b ⟨p1, p2, p3, p4⟩ k ∧ Below w1.heap.size w1 wr) (fun _ _ i _ => 4 - (intOf i).toNat)
  case atStart => exact ⟨0, by omega, rfl, fun i hi => by omega, Below.refl _ _⟩
  case round =>
    obtain ⟨k, hk4, rfl, hG, hbr⟩ := hrel
    have HG := Lib.hid hG
    clear hG
    have hzr := hbr.size
    have qsr : w.heap.size < wr.heap.size := Nat.lt_of_lt_of_le (Nat.lt_of_lt_of_le qs hz1) hzr
    have hwr : Below w.heap.size w wr := (hal.trans (hW1.mono hal.size)).trans (hbr.mono (Nat.le_trans hal.size hz1))
    by_cases hlt : k < 4
    · have i1 : (k : Int) < 4 := by omega
      have i2 : (0 : Int) ≤ (k : Int) := by omega
      obtain ⟨xs, hx⟩ : ∃ xs, b[k]? = some xs := ⟨_, List.getElem?_eq_getElem (by rw [H4.out]; exact hlt)⟩
      obtain ⟨sv, hsv, hss⟩ := (HS1.out.mono (fun _ _ h => h.below hbr)).left hx
      have d0 : wr.cell? ⟨w.heap.size, k, none⟩ = some sv := (hbr.cell (p := ⟨w.heap.size, k, none⟩) (Nat.lt_of_lt_of_le qs hz1)).trans ((hW1.cell (p := ⟨w.heap.size, k, none⟩) qs).trans (HQ.out k sv hsv))
      have HX := Lib.hid hx
      have HSV := Lib.hid hss
      clear hx hss hsv
      obtain ⟨f, hf⟩ : ∃ f, Pk.fld ⟨p1, p2, p3, p4⟩ k = f := ⟨_, rfl⟩
      have HF := Lib.hid hf
      have hxi : ∀ w : World, (Instr.index 130 (.agg #[.int .i64 p1, .int .i64 p2, .int .i64 p3, .int .i64 p4]) (.int .i64 (k : Int))).run Tryd.prog w = .ok (.int .i64 f) w := by
        subst hf
        intro w
        rcases (by omega : k = 0 ∨ k = 1 ∨ k = 2 ∨ k = 3) with rfl | rfl | rfl | rfl <;> kernel_rfl
      clear hf
      obtain ⟨r, hv2⟩ : ∃ r, shas xs f = r := ⟨_, rfl⟩
      have HV := Lib.hid hv2
      clear hv2
      go_wp2_with fail
      refine (implSH_b HSV.out HV.out).mono ?_
      rintro e w9 ⟨rfl, hb9⟩
      cases r
      · have HE := Lib.hid (bhas_no hlt HX.out (by rw [HF.out]; exact HV.out))
        have hw9 : Below w.heap.size w w9 := hwr.trans (hb9.mono hwr.size)
        clear hb9
        go_wp2
        go_ret
        exact ⟨ret_bool HE.out.symm, hw9⟩
      · have HE := Lib.hid (HG.out.step HX.out (by rw [HF.out]; exact HV.out))
        have hw9 : Below w1.heap.size w1 w9 := hbr.trans (hb9.mono hzr)
        clear hb9
        go_wp2
        go_roundw
        case rel => exact ⟨k + 1, by omega, by go_num, HE.out, hw9⟩
        case measure => simp [intOf]; omega
    · have hkn : k = 4 := by omega
      have HE := Lib.hid (bhas_yes (by have := HG.out; rwa [hkn] at this))
      subst hkn
      go_wp2
      go_ret
      exact ⟨ret_bool HE.out.symm, hwr⟩
theorem has_b {lo : Nat} {b : Bx} {v0 v1 v2 v3 : Value} {p1 p2 p3 p4 : Int} {w : World} {r : Bool} (hs : All2 (Sps lo w) [v0, v1, v2, v3] b) (h : bhas b ⟨p1, p2, p3, p4⟩ = r) :
    Calls Tryd.prog 87 #[.agg #[v0, v1, v2, v3], .agg #[.int .i64 p1, .int .i64 p2, .int .i64 p3, .int .i64 p4]] w fun e w' => e = .returned (.bool r) ∧ Below w.heap.size w w' := by
  subst h
  exact has_any b v0 v1 v2 v3 p1 p2 p3 p4 w hs
end Go.Proofs.YtkcnbkkgpampaaaDoor
