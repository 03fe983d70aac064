/- Which rule decides: the reference's walk. -/
import Derived.Test.YtkcnbkkgpampaaaDoorFmF
namespace Go.Proofs.YtkcnbkkgpampaaaDoor
open Go.RowKit
def bhas (b : Bx) (p : Pk) : Bool := (List.range 4).all fun n => shas (b.getD n []) (p.fld n)
theorem bhas_iff {b : Bx} {p : Pk} : bhas b p = true ↔ ∀ n, n < 4 → shas (b.getD n []) (p.fld n) = true := by
  unfold bhas
  rw [List.all_eq_true]
  exact ⟨fun h n hn => h n (List.mem_range.2 hn), fun h n hn => h n (List.mem_range.1 hn)⟩
theorem bhas_no {b : Bx} {p : Pk} {n : Nat} {xs : List Sp} (hn : n < 4) (hx : b[n]? = some xs) (h : shas xs (p.fld n) = false) : bhas b p = false := by
  rw [← Bool.not_eq_true, bhas_iff]
  intro g
  have := g n hn
  rw [List.getD_eq_getElem?_getD, hx] at this
  simp only [Option.getD_some] at this
  rw [h] at this; cases this
def BH (b : Bx) (p : Pk) (k : Nat) : Prop := ∀ n, n < k → shas (b.getD n []) (p.fld n) = true
theorem BH.step {b : Bx} {p : Pk} {n : Nat} {xs : List Sp} (h : BH b p n) (hx : b[n]? = some xs) (hs : shas xs (p.fld n) = true) : BH b p (n + 1) := by
  intro i hi
  by_cases e : i = n
  · subst e
    rw [List.getD_eq_getElem?_getD, hx]
    exact hs
  · exact h i (by omega)
theorem bhas_yes {b : Bx} {p : Pk} (h : BH b p 4) : bhas b p = true := bhas_iff.2 h
theorem bvalid_four {b : Bx} (h : bvalid b = true) : b.length = 4 ∧ BOk b 4 := by
  unfold bvalid at h
  exact of_decide_eq_true h
/-- The number of the first rule that has the packet. -/
def fwith : List Ft → Pk → Nat → Int
  | [], _, _ => -1
  | f :: fs, p, k => if bhas f.box p then (k : Int) else fwith fs p (k + 1)
theorem fwith_hit {p : Pk} : ∀ (fs : List Ft) (k m : Nat) (f : Ft), (∀ (i : Nat) g, i < k → fs[i]? = some g → bhas g.box p = false) → fs[k]? = some f → bhas f.box p = true → fwith fs p m = ((m + k : Nat) : Int)
  | [], _, _, _, _, h, _ => by simp at h
  | g :: fs, 0, m, f, _, h, hf => by
    simp at h
    subst h
    simp [fwith, hf]
  | g :: fs, k + 1, m, f, h0, h, hf => by
    have hg := h0 0 g (by omega) rfl
    simp only [fwith, hg, Bool.false_eq_true, if_false]
    rw [fwith_hit fs k (m + 1) f (fun i x hi hx => h0 (i + 1) x (by omega) (by simpa using hx)) (by simpa using h) hf]
    congr 1
    omega
theorem fwith_none {p : Pk} : ∀ (fs : List Ft) (m : Nat), (∀ (i : Nat) g, fs[i]? = some g → bhas g.box p = false) → fwith fs p m = -1
  | [], _, _ => rfl
  | g :: fs, m, h => by
    have hg := h 0 g rfl
    simp only [fwith, hg, Bool.false_eq_true, if_false]
    exact fwith_none fs (m + 1) (fun i x hx => h (i + 1) x (by simpa using hx))
def dby (fs : List Ft) (p : Pk) : Int := if fvalid fs && p.ok then fwith fs p 0 else -1
set_option maxHeartbeats 1000000 in
theorem specPF_any (a b c d : Int) (n : Nat) (hn : n < 4) (hp : Pk.ok ⟨a, b, c, d⟩ = true) (w : World) :
    Calls Tryd.prog 101 #[.agg #[.int .i64 a, .int .i64 b, .int .i64 c, .int .i64 d], .int .i64 n] w fun e w' => e = .returned (.int .i64 (Pk.fld ⟨a, b, c, d⟩ n)) ∧ Below w.heap.size w w' := by
  have h3 : inB (n : Int) 0 3 = true := inB_true (by omega) (by omega)
  rcases (by omega : n = 0 ∨ n = 1 ∨ n = 2 ∨ n = 3) with rfl | rfl | rfl | rfl
  all_goals
    go_enter Tryd.func101, Tryd.ntmps101
    
    go_wp2_with fail; refine (specPV_b hp _).mono ?_; rintro e w1 ⟨rfl, hb1⟩; obtain ⟨hc1, hf1⟩ := bcell hb1; have hz1 := hb1.size; (try simp at hz1); (try have hz1_w_0 : w.heap.size < w1.heap.size := (by omega)); (try have hz1_w_1 : w.heap.size + 1 < w1.heap.size := (by omega)); (try have hz1_w_2 : w.heap.size + 2 < w1.heap.size := (by omega)); have k1 := ownCells hb1 w.heap.size (by simp)
    have hw1 : Below w.heap.size w w1 := by (repeat' (first | with_reducible exact Below.refl _ _ | with_reducible assumption | with_reducible refine Below.setCell ?_ ?_ _ | with_reducible refine Below.alloc ?_ ?_ _ | with_reducible refine Below.drew ?_ | with_reducible refine belDrewN ?_ _ | with_reducible refine Below.trans ?_ (Below.mono (by assumption) ?_) | omega | (simp; omega) | (simp; done)))
    clear hb1 hc1 hf1
    go_wp2_with (go_at_call 61; refine (l1In_b h3 _).mono ?_; rintro e w' ⟨rfl, rfl⟩)
    go_ret
    exact ⟨rfl, by (repeat' (first | with_reducible exact Below.refl _ _ | with_reducible assumption | with_reducible refine Below.setCell ?_ ?_ _ | with_reducible refine Below.alloc ?_ ?_ _ | with_reducible refine Below.drew ?_ | with_reducible refine belDrewN ?_ _ | with_reducible refine Below.trans ?_ (Below.mono (by assumption) ?_) | omega | (simp; omega) | (simp; done)))⟩
set_option maxHeartbeats 2000000 in
theorem specBH_any {lo : Nat} (b : Bx) (v : Value) (p1 p2 p3 p4 : Int) (w : World) (hs : Rws lo w v b) :
    Calls Tryd.prog 69 #[.agg #[v], .agg #[.int .i64 p1, .int .i64 p2, .int .i64 p3, .int .i64 p4]] w fun e w' => e = .returned (.bool (bvalid b && Pk.ok ⟨p1, p2, p3, p4⟩ && bhas b ⟨p1, p2, p3, p4⟩)) ∧ Below w.heap.size w w' := by
  obtain ⟨a, cap, rfl, hlc, hcm⟩ := hs.form
  have hal : Below w.heap.size w ((w.alloc (.cells #[.slice a b.length cap] 50)).alloc (.cells #[.int .i64 p1, .int .i64 p2, .int .i64 p3, .int .i64 p4] 32)) := by (repeat' (first | with_reducible exact Below.refl _ _ | with_reducible assumption | with_reducible refine Below.setCell ?_ ?_ _ | with_reducible refine Below.alloc ?_ ?_ _ | with_reducible refine Below.drew ?_ | with_reducible refine belDrewN ?_ _ | with_reducible refine Below.trans ?_ (Below.mono (by assumption) ?_) | omega | (simp; omega) | (simp; done)))
  obtain ⟨W, hW⟩ : ∃ W, (w.alloc (.cells #[.slice a b.length cap] 50)).alloc (.cells #[.int .i64 p1, .int .i64 p2, .int .i64 p3, .int .i64 p4] 32) = W := ⟨_, rfl⟩
  have q0 : W.cell? ⟨w.heap.size, 0, none⟩ = some (.slice a b.length cap) := by rw [← hW]; simp
  have r0 : W.cell? ⟨w.heap.size + 1, 0, none⟩ = some (.int .i64 p1) := by rw [← hW]; simp
  have r1 : W.cell? ⟨w.heap.size + 1, 1, none⟩ = some (.int .i64 p2) := by rw [← hW]; simp
  have r2 : W.cell? ⟨w.heap.size + 1, 2, none⟩ = some (.int .i64 p3) := by rw [← hW]; simp
  have r3 : W.cell? ⟨w.heap.size + 1, 3, none⟩ = some (.int .i64 p4) := by rw [← hW]; simp
  have qs : w.heap.size + 1 < W.heap.size := by rw [← hW]; simp
  rw [hW] at hal
  have hsW := hs.below hal
  cases hv : bvalid b
  · go_enter Tryd.func69, Tryd.ntmps69
    go_wp2_with fail
    refine (specBV_b hsW hv).mono ?_
    rintro e w1 ⟨rfl, hb1⟩
    have hw1 : Below w.heap.size w w1 := hal.trans (hb1.mono hal.size)
    clear hb1 hW
    go_wp2
    go_ret
    exact ⟨rfl, hw1⟩
  · cases hp : Pk.ok ⟨p1, p2, p3, p4⟩
    · go_enter Tryd.func69, Tryd.ntmps69
      go_wp2_with fail
      refine (specBV_b hsW hv).mono ?_
      rintro e w1 ⟨rfl, hb1⟩
      have hw1 : Below w.heap.size w w1 := hal.trans (hb1.mono hal.size)
      have e0 := (hb1.cell (p := ⟨w.heap.size + 1, 0, none⟩) qs).trans r0
      have e1 := (hb1.cell (p := ⟨w.heap.size + 1, 1, none⟩) qs).trans r1
      have e2 := (hb1.cell (p := ⟨w.heap.size + 1, 2, none⟩) qs).trans r2
      have e3 := (hb1.cell (p := ⟨w.heap.size + 1, 3, none⟩) qs).trans r3
      clear hb1 hW
      go_wp2_with fail
      refine (specPV_b hp _).mono ?_
      rintro e w2 ⟨rfl, hb2⟩
      have hw2 : Below w.heap.size w w2 := hw1.trans (hb2.mono hw1.size)
      clear hb2
      go_wp2
      go_ret
      exact ⟨rfl, hw2⟩
    · obtain ⟨h4, hB4⟩ := bvalid_four hv
      have H4 := Lib.hid h4
      have HB4 := Lib.hid hB4
      rw [h4] at hsW q0 hW
      rw [h4]
      clear hB4 h4 hs hlc
      go_enter Tryd.func69, Tryd.ntmps69
      go_wp2_with fail
      refine (specBV_b hsW hv).mono ?_
      rintro e w1 ⟨rfl, hb1⟩
      have hw1 : Below w.heap.size w w1 := hal.trans (hb1.mono hal.size)
      have hs1 := hsW.below hb1
      have c0 := (hb1.cell (p := ⟨w.heap.size, 0, none⟩) (by simp; omega)).trans q0
      have e0 := (hb1.cell (p := ⟨w.heap.size + 1, 0, none⟩) qs).trans r0
      have e1 := (hb1.cell (p := ⟨w.heap.size + 1, 1, none⟩) qs).trans r1
      have e2 := (hb1.cell (p := ⟨w.heap.size + 1, 2, none⟩) qs).trans r2
      have e3 := (hb1.cell (p := ⟨w.heap.size + 1, 3, none⟩) qs).trans r3
      have qs1 : w.heap.size + 1 < w1.heap.size := Nat.lt_of_lt_of_le qs hb1.size
      clear hb1 hW hsW q0 r0 r1 r2 r3 hal
      go_wp2_with fail
      refine (specPV_b hp _).mono ?_
      rintro e w2 ⟨rfl, hb2⟩
      have hw2 : Below w.heap.size w w2 := hw1.trans (hb2.mono hw1.size)
      have hs2 := hs1.below hb2
      have q0 := (hb2.cell (p := ⟨w.heap.size, 0, none⟩) (by simp; omega)).trans c0
      have r0 := (hb2.cell (p := ⟨w.heap.size + 1, 0, none⟩) qs1).trans e0
      have r1 := (hb2.cell (p := ⟨w.heap.size + 1, 1, none⟩) qs1).trans e1
      have r2 := (hb2.cell (p := ⟨w.heap.size + 1, 2, none⟩) qs1).trans e2
      have r3 := (hb2.cell (p := ⟨w.heap.size + 1, 3, none⟩) qs1).trans e3
      have qs2 : w.heap.size + 1 < w2.heap.size := Nat.lt_of_lt_of_le qs1 hb2.size
      clear hb2 hw1 hs1 c0 e0 e1 e2 e3
      go_wp2_with fail
      go_loopw [5] (fun i wr => ∃ k : Nat, k ≤ 4 ∧ i = .int .i64 k ∧ BH b ⟨p1, p2, p3, p4⟩ k ∧ Below w2.heap.size w2 wr) (fun i _ => 4 - (intOf i).toNat)
      case atStart => exact ⟨0, by omega, rfl, fun i hi => by omega, Below.refl _ _⟩
      case round =>
        obtain ⟨k, hk4, rfl, hG, hbr⟩ := hrel
        have HG := Lib.hid hG
        clear hG
        have hzr := hbr.size
        have c0 := (hbr.cell (p := ⟨w.heap.size, 0, none⟩) (by simp; omega)).trans q0
        have e0 := (hbr.cell (p := ⟨w.heap.size + 1, 0, none⟩) qs2).trans r0
        have e1 := (hbr.cell (p := ⟨w.heap.size + 1, 1, none⟩) qs2).trans r1
        have e2 := (hbr.cell (p := ⟨w.heap.size + 1, 2, none⟩) qs2).trans r2
        have e3 := (hbr.cell (p := ⟨w.heap.size + 1, 3, none⟩) qs2).trans r3
        have qsr : w.heap.size + 1 < wr.heap.size := Nat.lt_of_lt_of_le qs2 hzr
        have hwr : Below w.heap.size w wr := hw2.trans (hbr.mono hw2.size)
        by_cases hlt : k < 4
        · have i1 : (k : Int) < 4 := by omega
          have i2 : (0 : Int) ≤ (k : Int) := by omega
          obtain ⟨xs, hx⟩ : ∃ xs, b[k]? = some xs := ⟨_, List.getElem?_eq_getElem (by rw [H4.out]; exact hlt)⟩
          obtain ⟨b', o, sv, rfl, hbl, d0, hsv⟩ := (hs2.below hbr).at hx
          have HX := Lib.hid hx
          have HSV := Lib.hid hsv
          clear hx hsv
          obtain ⟨r, hv2⟩ : ∃ r, shas xs (Pk.fld ⟨p1, p2, p3, p4⟩ k) = r := ⟨_, rfl⟩
          cases r
          · have HE := Lib.hid (bhas_no hlt HX.out hv2)
            go_wp2_with fail
            refine wp_region_over (by kernel_rfl) (by kernel_rfl) (fun ov => ?_); have ov0 := fun x => ov x (w.heap.size) (by (try simp) <;> omega); have ov1 := fun x => ov x (w.heap.size + 1) (by (try simp) <;> omega); have ov2 := fun x => ov x (b') (by (try simp) <;> omega); clear ov; (iterate 9 (iterate 8 (try go_big_quiet_step (first | (go_at_call 101; with_reducible exact callsOver (specPF_any p1 p2 p3 p4 k hlt hp _)) | (go_at_call 100; with_reducible exact callsOver (specSH_b (HSV.out.below (over_below _ _)) hv2)))))); refine wpQuiet_nil ?_; intro w9 hw9; have hb_w9 := below_over hw9; clear hw9 ov0 ov1 ov2
            have hb9 : Below w.heap.size w w9 := hwr.trans (hb_w9.mono hwr.size)
            clear hb_w9
            go_wp2
            go_ret
            exact ⟨ret_bool (by rw [HE.out]; simp), hb9⟩
          · have HE := Lib.hid (HG.out.step HX.out hv2)
            go_wp2_with fail
            refine wp_region_over (by kernel_rfl) (by kernel_rfl) (fun ov => ?_); have ov0 := fun x => ov x (w.heap.size) (by (try simp) <;> omega); have ov1 := fun x => ov x (w.heap.size + 1) (by (try simp) <;> omega); have ov2 := fun x => ov x (b') (by (try simp) <;> omega); clear ov; (iterate 9 (iterate 8 (try go_big_quiet_step (first | (go_at_call 101; with_reducible exact callsOver (specPF_any p1 p2 p3 p4 k hlt hp _)) | (go_at_call 100; with_reducible exact callsOver (specSH_b (HSV.out.below (over_below _ _)) hv2)))))); refine wpQuiet_nil ?_; intro w9 hw9; have hb_w9 := below_over hw9; clear hw9 ov0 ov1 ov2
            have hb9 : Below w2.heap.size w2 w9 := hbr.trans (hb_w9.mono hzr)
            clear hb_w9
            go_wp2
            go_roundw
            case rel => exact ⟨k + 1, by omega, by go_num, HE.out, hb9⟩
            case measure => simp [intOf]; omega
        · have hkn : k = 4 := by omega
          have HE := Lib.hid (bhas_yes (by have := HG.out; rwa [hkn] at this))
          subst hkn
          go_wp2
          go_ret
          exact ⟨ret_bool (by rw [HE.out]; simp), hwr⟩
theorem specBH_b {lo : Nat} {b : Bx} {v : Value} {p1 p2 p3 p4 : Int} {w : World} {r : Bool} (hs : Rws lo w v b) (h : (bvalid b && Pk.ok ⟨p1, p2, p3, p4⟩ && bhas b ⟨p1, p2, p3, p4⟩) = r) :
    Calls Tryd.prog 69 #[.agg #[v], .agg #[.int .i64 p1, .int .i64 p2, .int .i64 p3, .int .i64 p4]] w fun e w' => e = .returned (.bool r) ∧ Below w.heap.size w w' := by
  subst h
  exact specBH_any b v p1 p2 p3 p4 w hs
end Go.Proofs.YtkcnbkkgpampaaaDoor
