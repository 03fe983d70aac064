/- Boxes and rules without calls: when they are valid. -/
import Derived.Test.YtkcnbkkgpampaaaDoorFmS
namespace Go.Proofs.YtkcnbkkgpampaaaDoor
open Go.RowKit
/-- The first k sets are valid. -/
def BOk (b : Bx) (k : Nat) : Prop := ∀ (i : Nat) xs, i < k → b[i]? = some xs → svalid xs (top i) = true
instance (b : Bx) (k : Nat) : Decidable (BOk b k) := decidable_of_iff (∀ i, i < k → ∀ xs, b[i]? = some xs → svalid xs (top i) = true) ⟨fun h i xs hi hx => h i hi xs hx, fun h i hi xs hx => h i xs hi hx⟩
def bvalid (b : Bx) : Bool := decide (b.length = 4 ∧ BOk b 4)
def FOk (fs : List Ft) (k : Nat) : Prop := ∀ (i : Nat) f, i < k → fs[i]? = some f → bvalid f.box = true
def fvalid (fs : List Ft) : Bool := decide (fs.length ≤ 60) && fs.all fun f => bvalid f.box
theorem bvalid_no {b : Bx} {k : Nat} {xs : List Sp} (hx : b[k]? = some xs) (h : svalid xs (top k) = false) : bvalid b = false := by
  unfold bvalid
  rw [decide_eq_false_iff_not]
  rintro ⟨h1, h2⟩
  have hk := (List.getElem?_eq_some_iff.1 hx).1
  rw [h2 k xs (by omega) hx] at h
  cases h
theorem bvalid_len {b : Bx} (h : b.length ≠ 4) : bvalid b = false := by
  unfold bvalid
  rw [decide_eq_false_iff_not]
  exact fun h' => h h'.1
theorem bvalid_yes {b : Bx} (h : b.length = 4) (hb : BOk b 4) : bvalid b = true := decide_eq_true ⟨h, hb⟩
theorem BOk.step {b : Bx} {k : Nat} {xs : List Sp} (h : BOk b k) (hx : b[k]? = some xs) (hv : svalid xs (top k) = true) : BOk b (k + 1) := by
  intro i ys hi hy
  by_cases hk : i = k
  · subst hk; rw [hx] at hy; cases hy; exact hv
  · exact h i ys (by omega) hy
theorem fvalid_no {fs : List Ft} {k : Nat} {f : Ft} (hx : fs[k]? = some f) (h : bvalid f.box = false) : fvalid fs = false := by
  unfold fvalid
  rw [Bool.and_eq_false_iff]
  refine .inr (List.all_eq_false.2 ⟨f, List.mem_of_getElem? hx, by rw [h]; simp⟩)
theorem fvalid_big {fs : List Ft} (h : 60 < fs.length) : fvalid fs = false := by
  unfold fvalid
  rw [decide_eq_false (by omega), Bool.false_and]
theorem fvalid_yes {fs : List Ft} (h : FOk fs fs.length) : fvalid fs = decide (fs.length ≤ 60) := by
  unfold fvalid
  rw [List.all_eq_true.2 (fun f hf => by
    obtain ⟨i, hi, rfl⟩ := List.getElem_of_mem hf
    exact h i _ hi (List.getElem?_eq_getElem hi)), Bool.and_true]
theorem FOk.zero (fs : List Ft) : FOk fs 0 := fun i f hi => by omega
theorem FOk.step {fs : List Ft} {k : Nat} {f : Ft} (h : FOk fs k) (hx : fs[k]? = some f) (hv : bvalid f.box = true) : FOk fs (k + 1) := by
  intro i y hi hy
  by_cases hk : i = k
  · subst hk; rw [hx] at hy; cases hy; exact hv
  · exact h i y (by omega) hy
set_option maxHeartbeats 2000000 in
theorem specBV_any {lo : Nat} (b : Bx) (v : Value) (w : World) (hs : Rws lo w v b) :
    Calls Tryd.prog 81 #[.agg #[v]] w fun e w' => e = .returned (.bool (bvalid b)) ∧ Below w.heap.size w w' := by
  obtain ⟨a, cap, rfl, hlc, hcm⟩ := hs.form
  unfold maxLen at hcm
  have hal : Below w.heap.size w (w.alloc (.cells #[.slice a b.length cap] 50)) := (Below.refl _ _).alloc (Nat.le_refl _) _
  have q0 : (w.alloc (.cells #[.slice a b.length cap] 50)).cell? ⟨w.heap.size, 0, none⟩ = some (.slice a b.length cap) := by simp
  obtain ⟨W, hW⟩ : ∃ W, w.alloc (.cells #[.slice a b.length cap] 50) = W := ⟨_, rfl⟩
  have qs : w.heap.size < W.heap.size := by rw [← hW]; simp
  rw [hW] at hal q0
  have hsW := hs.below hal
  generalize hn : b.length = n at *
  have HN := Lib.hid hn
  clear hn
  go_enter Tryd.func81, Tryd.ntmps81
  go_wp2_with fail
  go_loopw [3] (fun i wr => ∃ k : Nat, k ≤ n ∧ k ≤ 4 ∧ i = .int .i64 k ∧ BOk b k ∧ Below W.heap.size W wr) (fun i _ => n - (intOf i).toNat)
  case atStart => exact ⟨0, by omega, by omega, rfl, fun i xs hi => by omega, Below.refl _ _⟩
  case round =>
    obtain ⟨k, hk, hk4, rfl, hG, hbr⟩ := hrel
    have HG := Lib.hid hG
    clear hG
    have hzr := hbr.size
    have e0 := (hbr.cell (p := ⟨w.heap.size, 0, none⟩) qs).trans q0
    have qsr : w.heap.size < wr.heap.size := Nat.lt_of_lt_of_le qs hzr
    have hs2 := hsW.below hbr
    have hwr : Below w.heap.size w wr := hal.trans (hbr.mono (by omega))
    by_cases hlt : k < n
    · have i1 : (k : Int) < (n : Int) := by omega
      have i2 : (0 : Int) ≤ (k : Int) := by omega
      by_cases h4 : k = 4
      · have HE := Lib.hid (bvalid_len (b := b) (by rw [HN.out]; omega))
        have h4' : (4 : Int) ≤ (k : Int) := by omega
        go_wp2_with fail
        refine wp_region_over (by kernel_rfl) (by kernel_rfl) (fun ov => ?_); have ov0 := fun x => ov x (w.heap.size) (by (try simp) <;> omega); clear ov; (iterate 9 (iterate 8 (try go_big_quiet_step (first | fail)))); refine wpQuiet_nil ?_; intro w9 hw9; have hb_w9 := below_over hw9; clear hw9 ov0
        go_wp2
        go_ret
        exact ⟨ret_bool HE.out.symm, by (repeat' (first | with_reducible exact Below.refl _ _ | with_reducible assumption | with_reducible refine Below.setCell ?_ ?_ _ | with_reducible refine Below.alloc ?_ ?_ _ | with_reducible refine Below.drew ?_ | with_reducible refine belDrewN ?_ _ | with_reducible refine Below.trans ?_ (Below.mono (by assumption) ?_) | omega | (simp; omega) | (simp; done)))⟩
      · have h4' : ¬ (4 : Int) ≤ (k : Int) := by omega
        have h4'' : decide ((4 : Int) ≤ (k : Int)) = false := decide_eq_false h4'
        obtain ⟨xs, hx⟩ : ∃ xs, b[k]? = some xs := ⟨_, List.getElem?_eq_getElem (by rw [HN.out]; exact hlt)⟩
        obtain ⟨b', o, sv, rfl, hbl, c0, hsv⟩ := hs2.at hx
        have HX := Lib.hid hx
        have HSV := Lib.hid hsv
        obtain ⟨ht0, ht1⟩ := top_le (n := k) (by omega)
        clear hx hsv
        cases hv : svalid xs (top k)
        · have HE := Lib.hid (bvalid_no HX.out hv)
          go_wp2_with fail
          refine wp_region_over (by kernel_rfl) (by kernel_rfl) (fun ov => ?_); have ov0 := fun x => ov x (w.heap.size) (by (try simp) <;> omega); have ov1 := fun x => ov x (b') (by (try simp) <;> omega); clear ov; (iterate 9 (iterate 8 (try go_big_quiet_step (first | (go_at_call 112; with_reducible exact callsOverSame (specFTop_any k (by omega) _)) | (go_at_call 115; with_reducible exact callsOver (specSV_b (HSV.out.below (over_below _ _)) ht0 ht1 hv)))))); refine wpQuiet_nil ?_; intro w9 hw9; have hb_w9 := below_over hw9; clear hw9 ov0 ov1
          go_wp2
          go_ret
          exact ⟨ret_bool HE.out.symm, by (repeat' (first | with_reducible exact Below.refl _ _ | with_reducible assumption | with_reducible refine Below.setCell ?_ ?_ _ | with_reducible refine Below.alloc ?_ ?_ _ | with_reducible refine Below.drew ?_ | with_reducible refine belDrewN ?_ _ | with_reducible refine Below.trans ?_ (Below.mono (by assumption) ?_) | omega | (simp; omega) | (simp; done)))⟩
        · have HE := Lib.hid (HG.out.step HX.out hv)
          go_wp2_with fail
          refine wp_region_over (by kernel_rfl) (by kernel_rfl) (fun ov => ?_); have ov0 := fun x => ov x (w.heap.size) (by (try simp) <;> omega); have ov1 := fun x => ov x (b') (by (try simp) <;> omega); clear ov; (iterate 9 (iterate 8 (try go_big_quiet_step (first | (go_at_call 112; with_reducible exact callsOverSame (specFTop_any k (by omega) _)) | (go_at_call 115; with_reducible exact callsOver (specSV_b (HSV.out.below (over_below _ _)) ht0 ht1 hv)))))); refine wpQuiet_nil ?_; intro w9 hw9; have hb_w9 := below_over hw9; clear hw9 ov0 ov1
          have hb9 : Below W.heap.size W w9 := hbr.trans (hb_w9.mono hzr)
          clear hb_w9
          go_wp2
          go_roundw
          case rel => exact ⟨k + 1, by omega, by omega, by go_num, HE.out, hb9⟩
          case measure => simp [intOf]; omega
    · have hkn : k = n := by omega
      by_cases h4 : n = 4
      · have HE := Lib.hid (bvalid_yes (b := b) (by rw [HN.out]; exact h4) (by have := HG.out; rwa [hkn, h4] at this))
        have h4' : ((n : Int) == 4) = true := by simpa using (by omega : (n : Int) = 4)
        clear hkn h4
        go_wp2
        go_ret
        exact ⟨ret_bool HE.out.symm, by (repeat' (first | with_reducible exact Below.refl _ _ | with_reducible assumption | with_reducible refine Below.setCell ?_ ?_ _ | with_reducible refine Below.alloc ?_ ?_ _ | with_reducible refine Below.drew ?_ | with_reducible refine belDrewN ?_ _ | with_reducible refine Below.trans ?_ (Below.mono (by assumption) ?_) | omega | (simp; omega) | (simp; done)))⟩
      · have HE := Lib.hid (bvalid_len (b := b) (by rw [HN.out]; exact h4))
        have h4' : ((n : Int) == 4) = false := by simpa using (by omega : (n : Int) ≠ 4)
        clear hkn
        go_wp2
        go_ret
        exact ⟨ret_bool HE.out.symm, by (repeat' (first | with_reducible exact Below.refl _ _ | with_reducible assumption | with_reducible refine Below.setCell ?_ ?_ _ | with_reducible refine Below.alloc ?_ ?_ _ | with_reducible refine Below.drew ?_ | with_reducible refine belDrewN ?_ _ | with_reducible refine Below.trans ?_ (Below.mono (by assumption) ?_) | omega | (simp; omega) | (simp; done)))⟩
theorem specBV_b {lo : Nat} {b : Bx} {v : Value} {w : World} {r : Bool} (hs : Rws lo w v b) (h : bvalid b = r) :
    Calls Tryd.prog 81 #[.agg #[v]] w fun e w' => e = .returned (.bool r) ∧ Below w.heap.size w w' := by
  subst h
  exact specBV_any b v w hs
set_option maxHeartbeats 2000000 in
theorem implBV_any {lo : Nat} (b : Bx) (v : Value) (w : World) (hs : Rws lo w v b) (ht : Tab w) :
    Calls Tryd.prog 85 #[.agg #[v]] w fun e w' => e = .returned (.bool (bvalid b)) ∧ Below w.heap.size w w' := by
  obtain ⟨a, cap, rfl, hlc, hcm⟩ := hs.form
  unfold maxLen at hcm
  have hal : Below w.heap.size w (w.alloc (.cells #[.slice a b.length cap] 50)) := (Below.refl _ _).alloc (Nat.le_refl _) _
  by_cases h4 : b.length = 4
  · rw [h4] at hs hlc hal ⊢
    have q0 : (w.alloc (.cells #[.slice a 4 cap] 50)).cell? ⟨w.heap.size, 0, none⟩ = some (.slice a 4 cap) := by simp
    obtain ⟨W, hW⟩ : ∃ W, w.alloc (.cells #[.slice a 4 cap] 50) = W := ⟨_, rfl⟩
    have qs : w.heap.size < W.heap.size := by rw [← hW]; simp
    rw [hW] at hal q0
    have hsW := hs.below hal
    have htW := ht.below hal
    have HN := Lib.hid h4
    clear h4
    go_enter Tryd.func85, Tryd.ntmps85
    go_wp2_with fail
    go_loopw [12] (fun i wr => ∃ k : Nat, k ≤ 4 ∧ i = .int .i64 k ∧ BOk b k ∧ Below W.heap.size W wr) (fun i _ => 4 - (intOf i).toNat)
    case atStart => exact ⟨0, by omega, rfl, fun i xs hi => by omega, Below.refl _ _⟩
    case round =>
      obtain ⟨k, hk4, rfl, hG, hbr⟩ := hrel
      have HG := Lib.hid hG
      clear hG
      have hzr := hbr.size
      have hs2 := hsW.below hbr
      have ht2 := htW.below hbr
      have hwr : Below w.heap.size w wr := hal.trans (hbr.mono (by omega))
      by_cases hlt : k < 4
      · have i1 : (k : Int) < 4 := by omega
        have i2 : (0 : Int) ≤ (k : Int) := by omega
        obtain ⟨xs, hx⟩ : ∃ xs, b[k]? = some xs := ⟨_, List.getElem?_eq_getElem (by rw [HN.out]; exact hlt)⟩
        obtain ⟨b', o, sv, rfl, hbl, c0, hsv⟩ := hs2.at hx
        have HX := Lib.hid hx
        have HSV := Lib.hid hsv
        obtain ⟨ht0, ht1⟩ := top_le (n := k) hlt
        clear hx hsv
        obtain ⟨r, hv⟩ : ∃ r, svalid xs (top k) = r := ⟨_, rfl⟩
        go_wp2_with fail
        refine (FieldTop_any k hlt _ ht2).mono ?_
        rintro e _ ⟨rfl, rfl⟩
        go_wp2_with fail
        refine (implSV_b HSV.out ht0 ht1 hv).mono ?_
        rintro e w9 ⟨rfl, hb9⟩
        have hb10 : Below W.heap.size W w9 := hbr.trans (hb9.mono hzr)
        have hw9 : Below w.heap.size w w9 := hwr.trans (hb9.mono hwr.size)
        clear hb9
        cases r
        · have HE := Lib.hid (bvalid_no HX.out hv)
          go_wp2
          go_ret
          exact ⟨ret_bool HE.out.symm, hw9⟩
        · have HE := Lib.hid (HG.out.step HX.out hv)
          go_wp2
          go_roundw
          case rel => exact ⟨k + 1, by omega, by go_num, HE.out, hb10⟩
          case measure => simp [intOf]; omega
      · have hkn : k = 4 := by omega
        have HE := Lib.hid (bvalid_yes (b := b) HN.out (by have := HG.out; rwa [hkn] at this))
        subst hkn
        go_wp2
        go_ret
        exact ⟨ret_bool HE.out.symm, hwr⟩
  · generalize hn : b.length = n at *
    have h4' : ((n : Int) == 4) = false := by simpa using (by omega : (n : Int) ≠ 4)
    have HE := Lib.hid (bvalid_len (b := b) (by rw [hn]; exact h4))
    go_enter Tryd.func85, Tryd.ntmps85
    go_wp2
    go_ret
    exact ⟨ret_bool HE.out.symm, by (repeat' (first | with_reducible exact Below.refl _ _ | with_reducible assumption | with_reducible refine Below.setCell ?_ ?_ _ | with_reducible refine Below.alloc ?_ ?_ _ | with_reducible refine Below.drew ?_ | with_reducible refine belDrewN ?_ _ | with_reducible refine Below.trans ?_ (Below.mono (by assumption) ?_) | omega | (simp; omega) | (simp; done)))⟩
theorem implBV_b {lo : Nat} {b : Bx} {v : Value} {w : World} {r : Bool} (hs : Rws lo w v b) (ht : Tab w) (h : bvalid b = r) :
    Calls Tryd.prog 85 #[.agg #[v]] w fun e w' => e = .returned (.bool r) ∧ Below w.heap.size w w' := by
  subst h
  exact implBV_any b v w hs ht
end Go.Proofs.YtkcnbkkgpampaaaDoor
