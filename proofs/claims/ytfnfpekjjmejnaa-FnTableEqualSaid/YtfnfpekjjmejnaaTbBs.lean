/- The library's BinarySearchFunc at tables, and where an entry stands. -/
import Derived.Test.YtfnfpekjjmejnaaTbC
namespace Go.Proofs.Ytfnfpekjjmejnaa
open Go.RowKit
theorem cmp_zero (a b : Pf) : cmpP a b = 0 ↔ a = b := by
  obtain ⟨x, y⟩ := a
  obtain ⟨z, u⟩ := b
  simp only [cmpP, cmpI, Pf.mk.injEq]
  by_cases h1 : x < z <;> by_cases h2 : z < x <;> by_cases h3 : y < u <;> by_cases h4 : u < y <;> simp [h1, h2, h3, h4] <;> omega
theorem cmp_neg {a b : Pf} : cmpP a b < 0 ↔ a.lt b = true := by rw [cmpP_lt]; simp
theorem lt_before {xs : List En} (hg : TGood xs xs.length) {p : Pf} {h : Nat} {x : En} (hx : xs[h]? = some x) (hl : x.w.lt p = true) (i : Nat) (y : En) (hi : i < h + 1) (hy : xs[i]? = some y) : y.w.lt p = true := by
  rcases (by omega : i < h ∨ i = h) with hlt | rfl
  · exact lt_trans' (tgood_lt hg i (h - i - 1) y x hy (by rw [show i + (h - i - 1) + 1 = h by omega]; exact hx)) hl
  · rw [hx] at hy; cases hy; exact hl
theorem nlt_after {xs : List En} (hg : TGood xs xs.length) {p : Pf} {h : Nat} {x : En} (hx : xs[h]? = some x) (hl : x.w.lt p = false) (i : Nat) (y : En) (hi : h ≤ i) (hy : xs[i]? = some y) : y.w.lt p = false := by
  rcases (by omega : h < i ∨ i = h) with hlt | rfl
  · cases hc : y.w.lt p
    · rfl
    · rw [lt_trans' (tgood_lt hg h (i - h - 1) x y hx (by rw [show h + (i - h - 1) + 1 = i by omega]; exact hy)) hc] at hl
      cases hl
  · rw [hx] at hy; cases hy; exact hl
theorem cl_b {f1 f2 f3 p1 p2 r : Int} (h : cmpP ⟨f1, f2⟩ ⟨p1, p2⟩ = r) (w : World) :
    Calls Try.prog 69 #[.agg #[.int .i64 f1, .int .i64 f2, .int .i64 f3], .agg #[.int .i64 p1, .int .i64 p2]] w fun e w' => e = .returned (.int .i64 r) ∧ Below w.heap.size w w' := by
  subst h
  exact cl_any f1 f2 f3 p1 p2 w
def foundAt (xs : List En) (p : Pf) : Bool := decide ((xs[place xs p]?).map (·.w) = some p)
theorem mid_le {s t : Nat} (h : s < t) : s ≤ (s + t) / 2 ∧ (s + t) / 2 < t := by omega
set_option maxRecDepth 100000 in
set_option maxHeartbeats 4000000 in
theorem bsf_any (xs : List En) (v : Value) (p1 p2 : Int) (w : World) (hs : Ens w v xs) (hv : tvalid xs = true) :
    Calls Try.prog 68 #[v, .agg #[.int .i64 p1, .int .i64 p2], .func (.func 69) #[] #[]] w
      fun e w' => e = .returned (.tuple #[.int .i64 (place xs ⟨p1, p2⟩), .bool (foundAt xs ⟨p1, p2⟩)]) ∧ Below w.heap.size w w' := by
  obtain ⟨h30, hg⟩ := (tvalid_iff xs).1 hv
  obtain ⟨a, cap, rfl, hlc, hcm, -⟩ := id hs
  unfold maxLen at hcm
  generalize hn : xs.length = n at *
  have HN := Lib.hid hn
  have HG := Lib.hid (show TGood xs xs.length by rw [hn]; exact hg)
  clear hn hg hv
  have hal : Below w.heap.size w (w.alloc (.cells #[.int .i64 p1, .int .i64 p2] 33)) := (Below.refl _ _).alloc (Nat.le_refl _) _
  obtain ⟨W, hW⟩ : ∃ W, w.alloc (.cells #[.int .i64 p1, .int .i64 p2] 33) = W := ⟨_, rfl⟩
  have q0 : W.cell? ⟨w.heap.size, 0, none⟩ = some (.int .i64 p1) := by rw [← hW]; simp
  have q1 : W.cell? ⟨w.heap.size, 1, none⟩ = some (.int .i64 p2) := by rw [← hW]; simp
  have qs : w.heap.size < W.heap.size := by rw [← hW]; simp
  rw [hW] at hal
  have hsW := hs.below hal
  go_enter Try.func68, Try.ntmps68
  go_wp2_with fail
  clear hW
  go_loopw [9, 10] (fun i j wr => ∃ (s t : Nat), i = .int .i64 s ∧ j = .int .i64 t ∧ s ≤ t ∧ t ≤ n ∧ Hid ((∀ (m : Nat) x, m < s → xs[m]? = some x → x.w.lt ⟨p1, p2⟩ = true) ∧ (∀ (m : Nat) x, t ≤ m → xs[m]? = some x → x.w.lt ⟨p1, p2⟩ = false)) ∧ Below W.heap.size W wr) (fun i j _ => (intOf j).toNat - (intOf i).toNat)
  case atStart => exact ⟨0, n, rfl, rfl, by omega, by omega, Lib.hid ⟨fun m x hm => by omega, fun m x hm hx => by have := (List.getElem?_eq_some_iff.1 hx).1; rw [HN.out] at this; omega⟩, Below.refl _ _⟩
  case round =>
    obtain ⟨s, t, rfl, rfl, hst, htn, HI, hbr⟩ := hrel
    have hzr := hbr.size
    have e0 := (hbr.cell (p := ⟨w.heap.size, 0, none⟩) qs).trans q0
    have e1 := (hbr.cell (p := ⟨w.heap.size, 1, none⟩) qs).trans q1
    have HS := Lib.hid (hsW.below hbr)
    by_cases hlt : s < t
    · obtain ⟨hm1, hm2⟩ := mid_le hlt
      have hmd : ((s : Int) + (t : Int)) / 2 = (((s + t) / 2 : Nat) : Int) := by omega
      obtain ⟨m, hmm⟩ : ∃ m, (s + t) / 2 = m := ⟨_, rfl⟩
      rw [hmm] at hm1 hm2 hmd
      obtain ⟨b, o, f1, f2, f3, rfl, hbl, hx, c0, c1, c2⟩ := HS.out.at (show m < xs.length by rw [HN.out]; omega)
      have HX := Lib.hid hx; clear hx
      have i1 : (m : Int) < (n : Int) := by omega
      obtain ⟨r, hr⟩ : ∃ r, cmpP ⟨f1, f2⟩ ⟨p1, p2⟩ = r := ⟨_, rfl⟩
      by_cases hneg : r < 0
      · have HLT := Lib.hid (show Pf.lt ⟨f1, f2⟩ ⟨p1, p2⟩ = true from cmp_neg.1 (by rw [hr]; exact hneg))
        go_wp2_with fail
        refine wp_region_over (by kernel_rfl) (by kernel_rfl) (fun ov => ?_); have ov0 := fun x => ov x (b) (by (try simp) <;> omega); have ov1 := fun x => ov x (w.heap.size) (by (try simp) <;> omega); clear ov; (repeat (go_big_quiet_step (first | (go_at_call 69; exact callsOver (cl_b hr _))))); refine wpQuiet_nil ?_; intro w9 hw9; have hb_w9 := below_over hw9; clear hw9 ov0 ov1
        have hb9 : Below W.heap.size W w9 := hbr.trans (hb_w9.mono hzr)
        clear hb_w9 c0 c1 c2
        go_wp2_with fail
        go_roundw
        case rel => exact ⟨m + 1, t, by go_num, rfl, by omega, htn, Lib.hid ⟨fun i x hi hx => lt_before HG.out HX.out HLT.out i x hi hx, HI.out.2⟩, hb9⟩
        case measure => simp [intOf]; omega
      · have HLT := Lib.hid (show Pf.lt ⟨f1, f2⟩ ⟨p1, p2⟩ = false by
          cases hc : Pf.lt ⟨f1, f2⟩ ⟨p1, p2⟩
          · rfl
          · exact absurd (by rw [← hr]; exact cmp_neg.2 hc) hneg)
        go_wp2_with fail
        refine wp_region_over (by kernel_rfl) (by kernel_rfl) (fun ov => ?_); have ov0 := fun x => ov x (b) (by (try simp) <;> omega); have ov1 := fun x => ov x (w.heap.size) (by (try simp) <;> omega); clear ov; (repeat (go_big_quiet_step (first | (go_at_call 69; exact callsOver (cl_b hr _))))); refine wpQuiet_nil ?_; intro w9 hw9; have hb_w9 := below_over hw9; clear hw9 ov0 ov1
        have hb9 : Below W.heap.size W w9 := hbr.trans (hb_w9.mono hzr)
        clear hb_w9 c0 c1 c2
        go_wp2_with fail
        go_roundw
        case rel => exact ⟨s, m, rfl, rfl, by omega, by omega, Lib.hid ⟨HI.out.1, fun i x hi hx => nlt_after HG.out HX.out HLT.out i x hi hx⟩, hb9⟩
        case measure => simp [intOf]; omega
    · obtain rfl : s = t := by omega
      by_cases hsn : s < n
      · obtain ⟨b, o, f1, f2, f3, rfl, hbl, hx, c0, c1, c2⟩ := HS.out.at (show s < xs.length by rw [HN.out]; omega)
        have HX := Lib.hid hx; clear hx
        have HP := Lib.hid (place_eq (p := ⟨p1, p2⟩) xs s HI.out.1 (.inr ⟨_, HX.out, HI.out.2 s _ (Nat.le_refl _) HX.out⟩) (by rw [HN.out]; exact htn))
        obtain ⟨r, hr⟩ : ∃ r, cmpP ⟨f1, f2⟩ ⟨p1, p2⟩ = r := ⟨_, rfl⟩
        have HF := Lib.hid (show foundAt xs ⟨p1, p2⟩ = decide (r = 0) by
          unfold foundAt
          rw [HP.out, HX.out, ← hr]
          simp only [Option.map_some, Option.some.injEq, cmp_zero])
        have i1 : (s : Int) < (n : Int) := by omega
        by_cases hz : r = 0
        · subst hz
          go_wp2_with fail
          refine wp_region_over (by kernel_rfl) (by kernel_rfl) (fun ov => ?_); have ov0 := fun x => ov x (b) (by (try simp) <;> omega); have ov1 := fun x => ov x (w.heap.size) (by (try simp) <;> omega); clear ov; (repeat (go_big_quiet_step (first | (go_at_call 69; exact callsOver (cl_b hr _))))); refine wpQuiet_nil ?_; intro w9 hw9; have hb_w9 := below_over hw9; clear hw9 ov0 ov1
          have hb9 : Below w.heap.size w w9 := hal.trans ((hbr.trans (hb_w9.mono hzr)).mono hal.size)
          clear hb_w9 c0 c1 c2
          go_wp2
          go_ret2
          exact ⟨by rw [HP.out, HF.out]; simp, hb9⟩
        · have hz' : (r == 0) = false := by simpa using hz
          go_wp2_with fail
          refine wp_region_over (by kernel_rfl) (by kernel_rfl) (fun ov => ?_); have ov0 := fun x => ov x (b) (by (try simp) <;> omega); have ov1 := fun x => ov x (w.heap.size) (by (try simp) <;> omega); clear ov; (repeat (go_big_quiet_step (first | (go_at_call 69; exact callsOver (cl_b hr _))))); refine wpQuiet_nil ?_; intro w9 hw9; have hb_w9 := below_over hw9; clear hw9 ov0 ov1
          have hb9 : Below w.heap.size w w9 := hal.trans ((hbr.trans (hb_w9.mono hzr)).mono hal.size)
          clear hb_w9 c0 c1 c2
          go_wp2
          go_ret2
          exact ⟨by rw [HP.out, HF.out]; simp [hz], hb9⟩
      · obtain rfl : s = n := by omega
        have HP := Lib.hid (place_eq (p := ⟨p1, p2⟩) xs s HI.out.1 (.inl (by rw [HN.out]; exact Nat.le_refl _)) (by rw [HN.out]; exact Nat.le_refl _))
        have HF := Lib.hid (show foundAt xs ⟨p1, p2⟩ = false by
          unfold foundAt
          rw [HP.out, List.getElem?_eq_none (by rw [HN.out]; exact Nat.le_refl _)]
          rfl)
        have hb9 : Below w.heap.size w wr := hal.trans (hbr.mono hal.size)
        go_wp2_with fail
        refine wp_region_over (by kernel_rfl) (by kernel_rfl) (fun ov => ?_); clear ov; (repeat (go_big_quiet_step (fail))); refine wpQuiet_nil ?_; intro w9 hw9; have hb_w9 := below_over hw9; clear hw9
        have hb10 : Below w.heap.size w w9 := hb9.trans (hb_w9.mono hb9.size)
        clear hb_w9 hb9
        go_wp2
        go_ret2
        exact ⟨by rw [HP.out, HF.out]; simp, hb10⟩
set_option maxHeartbeats 1000000 in
theorem entryPlace_any (xs : List En) (v : Value) (p1 p2 : Int) (w : World) (hs : Ens w v xs) (hv : tvalid xs = true) :
    Calls Try.prog 54 #[v, .agg #[.int .i64 p1, .int .i64 p2]] w
      fun e w' => e = .returned (.tuple #[.int .i64 (place xs ⟨p1, p2⟩), .bool (foundAt xs ⟨p1, p2⟩)]) ∧ Below w.heap.size w w' := by
  have hal : Below w.heap.size w (w.alloc (.cells #[.int .i64 p1, .int .i64 p2] 33)) := (Below.refl _ _).alloc (Nat.le_refl _) _
  obtain ⟨k, hk⟩ : ∃ k, place xs ⟨p1, p2⟩ = k := ⟨_, rfl⟩
  obtain ⟨f, hf⟩ : ∃ f, foundAt xs ⟨p1, p2⟩ = f := ⟨_, rfl⟩
  rw [hk, hf]
  go_enter Try.func54, Try.ntmps54
  go_wp2_with fail
  refine (bsf_any xs v p1 p2 _ (hs.below hal) hv).mono ?_
  rw [hk, hf]
  rintro e w1 ⟨rfl, hb1⟩
  have hw1 : Below w.heap.size w w1 := hal.trans (hb1.mono (by simp))
  clear hk hf hb1 hal
  go_wp2
  go_ret2
  exact ⟨rfl, hw1⟩
end Go.Proofs.Ytfnfpekjjmejnaa
