/- Sets of numbers: the walks of what reads them. -/
import Derived.Test.YtkcnbkkgpampaaaDoorFmM
import Derived.Test.YtkcnbkkgpampaaaDoorPk
namespace Go.Proofs.YtkcnbkkgpampaaaDoor
open Go.RowKit
/-- The first k ranges are in order. -/
def SOk (t : Int) (xs : List Sp) (k : Nat) : Prop := ∀ (i : Nat) x, i < k → xs[i]? = some x → 0 ≤ x.lo ∧ x.lo ≤ x.hi ∧ x.hi ≤ t ∧ ∀ (j : Nat) y, i = j + 1 → xs[j]? = some y → y.hi + 2 ≤ x.lo
theorem sgood_iff {t : Int} : ∀ {m : Int} {xs : List Sp}, sgood t m xs = true ↔ ∀ (i : Nat) x, xs[i]? = some x → (i = 0 → m ≤ x.lo) ∧ x.lo ≤ x.hi ∧ x.hi ≤ t ∧ ∀ (j : Nat) y, i = j + 1 → xs[j]? = some y → y.hi + 2 ≤ x.lo
  | _, [] => by simp [sgood]
  | m, s :: xs => by
    rw [sgood_cons, sgood_iff]
    constructor
    · rintro ⟨h1, h2, h3, h4⟩ i x hx
      cases i with
      | zero => simp at hx; subst hx; exact ⟨fun _ => h1, h2, h3, fun j y hj => by omega⟩
      | succ i =>
        obtain ⟨g1, g2, g3, g4⟩ := h4 i x (by simpa using hx)
        refine ⟨fun h => by omega, g2, g3, fun j y hj hy => ?_⟩
        cases j with
        | zero => simp at hy; subst hy; exact g1 (by omega)
        | succ j => exact g4 j y (by omega) (by simpa using hy)
    · intro h
      obtain ⟨g1, g2, g3, _⟩ := h 0 s rfl
      refine ⟨g1 rfl, g2, g3, fun i x hx => ?_⟩
      obtain ⟨_, k2, k3, k4⟩ := h (i + 1) x (by simpa using hx)
      exact ⟨fun hi => k4 0 s (by omega) rfl, k2, k3, fun j y hj hy => k4 (j + 1) y (by omega) (by simpa using hy)⟩
theorem SOk.good {t : Int} {xs : List Sp} (h : SOk t xs xs.length) : sgood t 0 xs = true :=
  sgood_iff.2 fun i x hx => let ⟨h0, h1, h2, h3⟩ := h i x (List.getElem?_eq_some_iff.1 hx).1 hx; ⟨fun _ => h0, h1, h2, h3⟩
theorem SOk.of {t : Int} {xs : List Sp} (h : sgood t 0 xs = true) : SOk t xs xs.length := by
  have h' := sgood_iff.1 h
  intro i
  induction i with
  | zero => intro x _ hx; obtain ⟨h0, h1, h2, h3⟩ := h' 0 x hx; exact ⟨h0 rfl, h1, h2, h3⟩
  | succ i ih =>
    intro x hi hx
    obtain ⟨_, h1, h2, h3⟩ := h' (i + 1) x hx
    have hy := List.getElem?_eq_getElem (show i < xs.length by omega)
    obtain ⟨g0, g1, _⟩ := ih _ (by omega) hy
    have := h3 i _ rfl hy
    exact ⟨by omega, h1, h2, h3⟩
theorem SOk.zero (t : Int) (xs : List Sp) : SOk t xs 0 := fun i x hi => by omega
theorem SOk.step {t : Int} {xs : List Sp} {k : Nat} {x : Sp} (h : SOk t xs k) (hx : xs[k]? = some x) (h0 : 0 ≤ x.lo) (h1 : x.lo ≤ x.hi) (h2 : x.hi ≤ t) (h3 : ∀ (j : Nat) y, k = j + 1 → xs[j]? = some y → y.hi + 2 ≤ x.lo) : SOk t xs (k + 1) := by
  intro i y hi hy
  by_cases hk : i = k
  · subst hk
    rw [hx] at hy; cases hy
    exact ⟨h0, h1, h2, h3⟩
  · exact h i y (by omega) hy
theorem svalid_no {t : Int} {xs : List Sp} {k : Nat} {x : Sp} (hx : xs[k]? = some x) (h : x.lo < 0 ∨ x.hi < x.lo ∨ t < x.hi ∨ ∃ (j : Nat) (y : Sp), k = j + 1 ∧ xs[j]? = some y ∧ x.lo < y.hi + 2) : svalid xs t = false := by
  cases hv : svalid xs t
  · rfl
  · simp only [svalid, Bool.and_eq_true] at hv
    obtain ⟨h0, h1, h2, h3⟩ := SOk.of hv.2 k x (List.getElem?_eq_some_iff.1 hx).1 hx
    rcases h with h | h | h | ⟨j, y, hj, hy, h⟩
    · omega
    · omega
    · omega
    · have := h3 j y hj hy; omega
theorem svalid_yes {t : Int} {xs : List Sp} (h : SOk t xs xs.length) (ht0 : 0 ≤ t) (ht1 : t ≤ 65535) : svalid xs t = decide (xs.length ≤ 40) := by
  simp only [svalid, h.good, Bool.and_true, inB_true ht0 ht1, Bool.true_and]
theorem svalid_big {t : Int} {xs : List Sp} (h : 40 < xs.length) : svalid xs t = false := by
  simp only [svalid, decide_eq_false (show ¬ xs.length ≤ 40 by omega), Bool.and_false, Bool.false_and]
set_option maxHeartbeats 2000000 in
theorem specSV_any {lo : Nat} (xs : List Sp) (v : Value) (t : Int) (w : World) (hs : Sps lo w v xs) (ht0 : 0 ≤ t) (ht1 : t ≤ 65535) :
    Calls Tryd.prog 115 #[v, .int .i64 t] w fun e w' => e = .returned (.bool (svalid xs t)) ∧ Below w.heap.size w w' := by
  obtain ⟨a, cap, rfl, hlc, hcm⟩ := hs.form
  unfold maxLen at hcm
  generalize hn : xs.length = n at *
  have HN := Lib.hid hn
  clear hn
  go_enter Tryd.func115, Tryd.ntmps115
  go_wp2_with fail
  go_loopw [5] (fun i wr => ∃ k : Nat, k ≤ n ∧ i = .int .i64 k ∧ SOk t xs k ∧ Below w.heap.size w wr) (fun i _ => n - (intOf i).toNat)
  case atStart => exact ⟨0, by omega, rfl, SOk.zero _ _, by (repeat' (first | with_reducible exact Below.refl _ _ | with_reducible assumption | with_reducible refine Below.setCell ?_ ?_ _ | with_reducible refine Below.alloc ?_ ?_ _ | with_reducible refine Below.drew ?_ | with_reducible refine belDrewN ?_ _ | with_reducible refine Below.trans ?_ (Below.mono (by assumption) ?_) | omega | (simp; omega) | (simp; done)))⟩
  case round =>
    obtain ⟨k, hk, rfl, hG, hbr⟩ := hrel
    have HG := Lib.hid hG
    clear hG
    have hzr := hbr.size
    have hs2 := hs.below hbr
    by_cases hlt : k < n
    · obtain ⟨b, o, f1, f2, rfl, hbl, hx, c0, c1⟩ := hs2.at (show k < xs.length by rw [HN.out]; exact hlt)
      have HX := Lib.hid hx
      clear hx
      have i1 : (k : Int) < (n : Int) := by omega
      have i2 : (0 : Int) ≤ (k : Int) := by omega
      cases h1 : inB f1 0 f2
      · go_wp2_with fail
        refine wp_region_over (by kernel_rfl) (by kernel_rfl) (fun ov => ?_); have ov0 := fun x => ov x (b) (by (try simp) <;> omega); clear ov; (iterate 9 (iterate 8 (try go_big_quiet_step (first | (go_at_call 61; with_reducible exact callsOverSame (l1In_b h1 _)))))); refine wpQuiet_nil ?_; intro w9 hw9; have hb_w9 := below_over hw9; clear hw9 ov0
        go_wp2
        go_ret
        refine ⟨ret_bool (svalid_no HX.out ?_).symm, by (repeat' (first | with_reducible exact Below.refl _ _ | with_reducible assumption | with_reducible refine Below.setCell ?_ ?_ _ | with_reducible refine Below.alloc ?_ ?_ _ | with_reducible refine Below.drew ?_ | with_reducible refine belDrewN ?_ _ | with_reducible refine Below.trans ?_ (Below.mono (by assumption) ?_) | omega | (simp; omega) | (simp; done)))⟩
        rw [← Bool.not_eq_true, inB_iff] at h1
        simp only
        omega
      · cases h2 : inB f2 0 t
        · go_wp2_with fail
          refine wp_region_over (by kernel_rfl) (by kernel_rfl) (fun ov => ?_); have ov0 := fun x => ov x (b) (by (try simp) <;> omega); clear ov; (iterate 9 (iterate 8 (try go_big_quiet_step (first | (go_at_call 61; with_reducible exact callsOverSame (l1In_b h1 _)) | (go_at_call 61; with_reducible exact callsOverSame (l1In_b h2 _)))))); refine wpQuiet_nil ?_; intro w9 hw9; have hb_w9 := below_over hw9; clear hw9 ov0
          go_wp2
          go_ret
          refine ⟨ret_bool (svalid_no HX.out ?_).symm, by (repeat' (first | with_reducible exact Below.refl _ _ | with_reducible assumption | with_reducible refine Below.setCell ?_ ?_ _ | with_reducible refine Below.alloc ?_ ?_ _ | with_reducible refine Below.drew ?_ | with_reducible refine belDrewN ?_ _ | with_reducible refine Below.trans ?_ (Below.mono (by assumption) ?_) | omega | (simp; omega) | (simp; done)))⟩
          rw [← Bool.not_eq_true, inB_iff] at h2
          rw [inB_iff] at h1
          simp only
          omega
        · obtain ⟨g1, g2⟩ := inB_iff.1 h1
          obtain ⟨g3, g4⟩ := inB_iff.1 h2
          by_cases hk0 : k = 0
          · have hd : decide (0 < k) = false := by simp; omega
            have hd' : decide ((0 : Int) < (k : Int)) = false := by simp; omega
            have HZ := Lib.hid hk0; clear hk0
            go_wp2_with fail
            refine wp_region_over (by kernel_rfl) (by kernel_rfl) (fun ov => ?_); have ov0 := fun x => ov x (b) (by (try simp) <;> omega); clear ov; (iterate 9 (iterate 8 (try go_big_quiet_step (first | (go_at_call 61; with_reducible exact callsOverSame (l1In_b h1 _)) | (go_at_call 61; with_reducible exact callsOverSame (l1In_b h2 _)))))); refine wpQuiet_nil ?_; intro w9 hw9; have hb_w9 := below_over hw9; clear hw9 ov0
            go_wp2
            go_roundw
            case rel => exact ⟨k + 1, by omega, by go_num, HG.out.step HX.out g1 g2 g4 (fun j y hj => by have := HZ.out; omega), by (repeat' (first | with_reducible exact Below.refl _ _ | with_reducible assumption | with_reducible refine Below.setCell ?_ ?_ _ | with_reducible refine Below.alloc ?_ ?_ _ | with_reducible refine Below.drew ?_ | with_reducible refine belDrewN ?_ _ | with_reducible refine Below.trans ?_ (Below.mono (by assumption) ?_) | omega | (simp; omega) | (simp; done)))⟩
            case measure => simp [intOf]; omega
          · obtain ⟨j, hj⟩ : ∃ j, k = j + 1 := ⟨k - 1, by omega⟩
            obtain ⟨b', o', e1, e2, he, -, hy, d0, d1⟩ := hs2.at (show j < xs.length by rw [HN.out]; omega)
            obtain ⟨rfl, rfl, -⟩ := Addr.mk.inj (Option.some.inj he)
            clear he
            obtain ⟨y0, y1, y2, -⟩ := HG.out j _ (by omega) hy
            simp only at y0 y1 y2
            have HY := Lib.hid hy; clear hy
            have hd : decide (0 < k) = true := by simp; omega
            have hd' : decide ((0 : Int) < (k : Int)) = true := by simp; omega
            have i5 : (j : Int) < (n : Int) := by omega
            have i6 : (0 : Int) ≤ (j : Int) := by omega
            have i4 : IntKind.i64.wrap ((k : Int) - 1) = (j : Int) := by rw [show (k : Int) - 1 = j by omega]; exact IntWalk.i64_in _ (by omega)
            have HJ := Lib.hid hj; clear hj hk0
            by_cases hl : f1 < e2 + 2
            · have hl' : decide (f1 < e2 + 2) = true := decide_eq_true hl
              go_wp2_with fail
              refine wp_region_over (by kernel_rfl) (by kernel_rfl) (fun ov => ?_); have ov0 := fun x => ov x (b) (by (try simp) <;> omega); clear ov; (iterate 9 (iterate 8 (try go_big_quiet_step (first | (go_at_call 61; with_reducible exact callsOverSame (l1In_b h1 _)) | (go_at_call 61; with_reducible exact callsOverSame (l1In_b h2 _)))))); refine wpQuiet_nil ?_; intro w9 hw9; have hb_w9 := below_over hw9; clear hw9 ov0
              go_wp2
              go_ret
              exact ⟨ret_bool (svalid_no HX.out (.inr (.inr (.inr ⟨j, _, HJ.out, HY.out, hl⟩)))).symm, by (repeat' (first | with_reducible exact Below.refl _ _ | with_reducible assumption | with_reducible refine Below.setCell ?_ ?_ _ | with_reducible refine Below.alloc ?_ ?_ _ | with_reducible refine Below.drew ?_ | with_reducible refine belDrewN ?_ _ | with_reducible refine Below.trans ?_ (Below.mono (by assumption) ?_) | omega | (simp; omega) | (simp; done)))⟩
            · have hl' : decide (f1 < e2 + 2) = false := decide_eq_false hl
              have hl2 : e2 + 2 ≤ f1 := by omega
              go_wp2_with fail
              refine wp_region_over (by kernel_rfl) (by kernel_rfl) (fun ov => ?_); have ov0 := fun x => ov x (b) (by (try simp) <;> omega); clear ov; (iterate 9 (iterate 8 (try go_big_quiet_step (first | (go_at_call 61; with_reducible exact callsOverSame (l1In_b h1 _)) | (go_at_call 61; with_reducible exact callsOverSame (l1In_b h2 _)))))); refine wpQuiet_nil ?_; intro w9 hw9; have hb_w9 := below_over hw9; clear hw9 ov0
              go_wp2
              go_roundw
              case rel =>
                refine ⟨k + 1, by omega, by go_num, HG.out.step HX.out g1 g2 g4 (fun j' y hj hy => ?_), by (repeat' (first | with_reducible exact Below.refl _ _ | with_reducible assumption | with_reducible refine Below.setCell ?_ ?_ _ | with_reducible refine Below.alloc ?_ ?_ _ | with_reducible refine Below.drew ?_ | with_reducible refine belDrewN ?_ _ | with_reducible refine Below.trans ?_ (Below.mono (by assumption) ?_) | omega | (simp; omega) | (simp; done)))⟩
                obtain rfl : j = j' := by have := HJ.out; omega
                rw [HY.out] at hy
                cases hy
                exact hl2
              case measure => simp [intOf]; omega
    · have hkn : k = n := by omega
      have HE := Lib.hid (show svalid xs t = decide (n ≤ 40) by
        have hG := HG.out
        rw [hkn, ← HN.out] at hG
        rw [svalid_yes hG ht0 ht1, HN.out])
      have h3 := inB_true ht0 ht1
      go_wp2_with (go_at_call 61; refine (l1In_b h3 _).mono ?_; rintro e w' ⟨rfl, rfl⟩)
      all_goals
        go_ret
        refine ⟨ret_bool ?_, by (repeat' (first | with_reducible exact Below.refl _ _ | with_reducible assumption | with_reducible refine Below.setCell ?_ ?_ _ | with_reducible refine Below.alloc ?_ ?_ _ | with_reducible refine Below.drew ?_ | with_reducible refine belDrewN ?_ _ | with_reducible refine Below.trans ?_ (Below.mono (by assumption) ?_) | omega | (simp; omega) | (simp; done)))⟩
        rw [HE.out]
        first | rfl | (simp; done) | (simp; omega)
theorem specSV_b {lo : Nat} {xs : List Sp} {v : Value} {t : Int} {w : World} {r : Bool} (hs : Sps lo w v xs) (ht0 : 0 ≤ t) (ht1 : t ≤ 65535) (h : svalid xs t = r) :
    Calls Tryd.prog 115 #[v, .int .i64 t] w fun e w' => e = .returned (.bool r) ∧ Below w.heap.size w w' := by
  subst h
  exact specSV_any xs v t w hs ht0 ht1
set_option maxHeartbeats 400000 in
theorem topValid_any (t : Int) (w : World) (ht0 : 0 ≤ t) (ht1 : t ≤ 65535) : Calls Tryd.prog 129 #[.int .i64 t] w fun e w' => e = .returned (.bool true) ∧ w = w' := by
  go_enter Tryd.func129, Tryd.ntmps129
  go_wp2
  all_goals
    go_ret
    exact ⟨rfl, rfl⟩
/-- What the last range's end is behind k ranges. -/
def lst (xs : List Sp) (k : Nat) : Int := match k with
  | 0 => -2
  | j + 1 => match xs[j]? with
    | some y => y.hi
    | none => -2
set_option maxHeartbeats 2000000 in
theorem implSV_any {lo : Nat} (xs : List Sp) (v : Value) (t : Int) (w : World) (hs : Sps lo w v xs) (ht0 : 0 ≤ t) (ht1 : t ≤ 65535) :
    Calls Tryd.prog 116 #[v, .int .i64 t] w fun e w' => e = .returned (.bool (svalid xs t)) ∧ Below w.heap.size w w' := by
  obtain ⟨a, cap, rfl, hlc, hcm⟩ := hs.form
  unfold maxLen at hcm
  generalize hn : xs.length = n at *
  by_cases h40 : 40 < n
  · have HE := Lib.hid (svalid_big (t := t) (show 40 < xs.length by rw [hn]; exact h40))
    go_enter Tryd.func116, Tryd.ntmps116
    go_wp2_with fail
    refine (topValid_any t _ ht0 ht1).mono ?_
    rintro e _ ⟨rfl, rfl⟩
    go_wp2
    go_ret
    exact ⟨ret_bool HE.out.symm, Below.refl _ _⟩
  · have HN := Lib.hid hn
    clear hn
    have h40' : n ≤ 40 := by omega
    go_enter Tryd.func116, Tryd.ntmps116
    go_wp2_with fail
    refine (topValid_any t _ ht0 ht1).mono ?_
    rintro e _ ⟨rfl, rfl⟩
    go_wp2_with fail
    go_loopw [5, 18] (fun l i wr => ∃ k : Nat, k ≤ n ∧ i = .int .i64 k ∧ SOk t xs k ∧ l = .int .i64 (lst xs k) ∧ -2 ≤ lst xs k ∧ lst xs k ≤ t ∧ Below w.heap.size w wr) (fun _ i _ => n - (intOf i).toNat)
    case atStart => exact ⟨0, by omega, rfl, SOk.zero _ _, rfl, by simp [lst], by simp [lst]; omega, by (repeat' (first | with_reducible exact Below.refl _ _ | with_reducible assumption | with_reducible refine Below.setCell ?_ ?_ _ | with_reducible refine Below.alloc ?_ ?_ _ | with_reducible refine Below.drew ?_ | with_reducible refine belDrewN ?_ _ | with_reducible refine Below.trans ?_ (Below.mono (by assumption) ?_) | omega | (simp; omega) | (simp; done)))⟩
    case round =>
      obtain ⟨k, hk, rfl, hG, rfl, hl0, hl1, hbr⟩ := hrel
      have HG := Lib.hid hG
      clear hG
      have hzr := hbr.size
      have hs2 := hs.below hbr
      have HLS := Lib.hid (show ∀ y, xs[k]? = some y → lst xs (k + 1) = y.hi from fun y hy => by simp [lst, hy])
      have HL := Lib.hid (show ∀ (y : Sp) (j : Nat), k = j + 1 → xs[j]? = some y → lst xs k = y.hi from fun y j hj hy => by subst hj; simp [lst, hy])
      have HL0 := Lib.hid (show k = 0 → lst xs k = -2 from fun h => by subst h; rfl)
      generalize lst xs k = l at *
      by_cases hlt : k < n
      · obtain ⟨b, o, f1, f2, rfl, hbl, hx, c0, c1⟩ := hs2.at (show k < xs.length by rw [HN.out]; exact hlt)
        have HX := Lib.hid hx
        clear hx
        have i1 : (k : Int) < (n : Int) := by omega
        have i2 : (0 : Int) ≤ (k : Int) := by omega
        by_cases q1 : f1 ≤ l + 1
        · have HB := Lib.hid (show svalid xs t = false from svalid_no HX.out (by
            simp only
            cases k with
            | zero => have := HL0.out rfl; omega
            | succ j =>
              obtain ⟨b', o', e1, e2, -, -, hy, -, -⟩ := hs2.at (show j < xs.length by rw [HN.out]; omega)
              have := HL.out _ j rfl hy
              exact .inr (.inr (.inr ⟨j, _, rfl, hy, by simp only at this ⊢; omega⟩))))
          clear HL HL0 HLS
          go_wp2
          go_ret
          exact ⟨ret_bool HB.out.symm, by (repeat' (first | with_reducible exact Below.refl _ _ | with_reducible assumption | with_reducible refine Below.setCell ?_ ?_ _ | with_reducible refine Below.alloc ?_ ?_ _ | with_reducible refine Below.drew ?_ | with_reducible refine belDrewN ?_ _ | with_reducible refine Below.trans ?_ (Below.mono (by assumption) ?_) | omega | (simp; omega) | (simp; done)))⟩
        · by_cases q2 : f2 < f1
          · have HB := Lib.hid (show svalid xs t = false from svalid_no HX.out (.inr (.inl q2)))
            clear HL HL0 HLS
            go_wp2
            go_ret
            exact ⟨ret_bool HB.out.symm, by (repeat' (first | with_reducible exact Below.refl _ _ | with_reducible assumption | with_reducible refine Below.setCell ?_ ?_ _ | with_reducible refine Below.alloc ?_ ?_ _ | with_reducible refine Below.drew ?_ | with_reducible refine belDrewN ?_ _ | with_reducible refine Below.trans ?_ (Below.mono (by assumption) ?_) | omega | (simp; omega) | (simp; done)))⟩
          · by_cases q3 : t < f2
            · have HB := Lib.hid (show svalid xs t = false from svalid_no HX.out (.inr (.inr (.inl q3))))
              clear HL HL0 HLS
              go_wp2
              go_ret
              exact ⟨ret_bool HB.out.symm, by (repeat' (first | with_reducible exact Below.refl _ _ | with_reducible assumption | with_reducible refine Below.setCell ?_ ?_ _ | with_reducible refine Below.alloc ?_ ?_ _ | with_reducible refine Below.drew ?_ | with_reducible refine belDrewN ?_ _ | with_reducible refine Below.trans ?_ (Below.mono (by assumption) ?_) | omega | (simp; omega) | (simp; done)))⟩
            · have HK := Lib.hid (show SOk t xs (k + 1) from HG.out.step HX.out (by simp only; omega) (by simp only; omega) (by simp only; omega) (fun j y hj hy => by
                have := HL.out y j hj hy
                simp only; omega))
              have HK2 := Lib.hid (show lst xs (k + 1) = f2 from HLS.out _ HX.out)
              clear HL HL0 HLS
              go_wp2
              go_roundw
              case rel => exact ⟨k + 1, by omega, by go_num, HK.out, by rw [HK2.out], by rw [HK2.out]; omega, by rw [HK2.out]; omega, by (repeat' (first | with_reducible exact Below.refl _ _ | with_reducible assumption | with_reducible refine Below.setCell ?_ ?_ _ | with_reducible refine Below.alloc ?_ ?_ _ | with_reducible refine Below.drew ?_ | with_reducible refine belDrewN ?_ _ | with_reducible refine Below.trans ?_ (Below.mono (by assumption) ?_) | omega | (simp; omega) | (simp; done)))⟩
              case measure => simp [intOf]; omega
      · have hkn : k = n := by omega
        have HE := Lib.hid (show svalid xs t = true by
          have hG := HG.out
          rw [hkn, ← HN.out] at hG
          rw [svalid_yes hG ht0 ht1, HN.out, decide_eq_true h40'])
        go_wp2
        go_ret
        exact ⟨ret_bool HE.out.symm, by (repeat' (first | with_reducible exact Below.refl _ _ | with_reducible assumption | with_reducible refine Below.setCell ?_ ?_ _ | with_reducible refine Below.alloc ?_ ?_ _ | with_reducible refine Below.drew ?_ | with_reducible refine belDrewN ?_ _ | with_reducible refine Below.trans ?_ (Below.mono (by assumption) ?_) | omega | (simp; omega) | (simp; done)))⟩
theorem implSV_b {lo : Nat} {xs : List Sp} {v : Value} {t : Int} {w : World} {r : Bool} (hs : Sps lo w v xs) (ht0 : 0 ≤ t) (ht1 : t ≤ 65535) (h : svalid xs t = r) :
    Calls Tryd.prog 116 #[v, .int .i64 t] w fun e w' => e = .returned (.bool r) ∧ Below w.heap.size w w' := by
  subst h
  exact implSV_any xs v t w hs ht0 ht1
theorem shas_take_succ {xs : List Sp} {n : Int} {k : Nat} {x : Sp} (h : shas (xs.take k) n = false) (hx : xs[k]? = some x) (hb : inB n x.lo x.hi = false) : shas (xs.take (k + 1)) n = false := by
  rw [List.take_add_one, hx, shas_append, h]
  simp [shas, hb]
theorem shas_hit {xs : List Sp} {n : Int} {k : Nat} {x : Sp} (hx : xs[k]? = some x) (hb : inB n x.lo x.hi = true) : shas xs n = true := by
  unfold shas
  rw [List.any_eq_true]
  exact ⟨x, List.mem_of_getElem? hx, hb⟩
set_option maxHeartbeats 1000000 in
theorem specSH_any {lo : Nat} (xs : List Sp) (v : Value) (t : Int) (w : World) (hs : Sps lo w v xs) :
    Calls Tryd.prog 100 #[v, .int .i64 t] w fun e w' => e = .returned (.bool (shas xs t)) ∧ Below w.heap.size w w' := by
  obtain ⟨a, cap, rfl, hlc, hcm⟩ := hs.form
  unfold maxLen at hcm
  generalize hn : xs.length = n at *
  have HN := Lib.hid hn
  clear hn
  go_enter Tryd.func100, Tryd.ntmps100
  go_wp2_with fail
  go_loopw [5] (fun i wr => ∃ k : Nat, k ≤ n ∧ i = .int .i64 k ∧ shas (xs.take k) t = false ∧ Below w.heap.size w wr) (fun i _ => n - (intOf i).toNat)
  case atStart => exact ⟨0, by omega, rfl, rfl, by (repeat' (first | with_reducible exact Below.refl _ _ | with_reducible assumption | with_reducible refine Below.setCell ?_ ?_ _ | with_reducible refine Below.alloc ?_ ?_ _ | with_reducible refine Below.drew ?_ | with_reducible refine belDrewN ?_ _ | with_reducible refine Below.trans ?_ (Below.mono (by assumption) ?_) | omega | (simp; omega) | (simp; done)))⟩
  case round =>
    obtain ⟨k, hk, rfl, hG, hbr⟩ := hrel
    have HG := Lib.hid hG
    clear hG
    have hzr := hbr.size
    have hs2 := hs.below hbr
    by_cases hlt : k < n
    · obtain ⟨b, o, f1, f2, rfl, hbl, hx, c0, c1⟩ := hs2.at (show k < xs.length by rw [HN.out]; exact hlt)
      have HX := Lib.hid hx
      clear hx
      have i1 : (k : Int) < (n : Int) := by omega
      have i2 : (0 : Int) ≤ (k : Int) := by omega
      cases h1 : inB t f1 f2
      · have HB := Lib.hid (shas_take_succ HG.out HX.out h1)
        go_wp2_with fail
        refine wp_region_over (by kernel_rfl) (by kernel_rfl) (fun ov => ?_); have ov0 := fun x => ov x (b) (by (try simp) <;> omega); clear ov; (iterate 9 (iterate 8 (try go_big_quiet_step (first | (go_at_call 61; with_reducible exact callsOverSame (l1In_b h1 _)))))); refine wpQuiet_nil ?_; intro w9 hw9; have hb_w9 := below_over hw9; clear hw9 ov0
        go_wp2
        go_roundw
        case rel => exact ⟨k + 1, by omega, by go_num, HB.out, by (repeat' (first | with_reducible exact Below.refl _ _ | with_reducible assumption | with_reducible refine Below.setCell ?_ ?_ _ | with_reducible refine Below.alloc ?_ ?_ _ | with_reducible refine Below.drew ?_ | with_reducible refine belDrewN ?_ _ | with_reducible refine Below.trans ?_ (Below.mono (by assumption) ?_) | omega | (simp; omega) | (simp; done)))⟩
        case measure => simp [intOf]; omega
      · have HB := Lib.hid (shas_hit HX.out h1)
        go_wp2_with fail
        refine wp_region_over (by kernel_rfl) (by kernel_rfl) (fun ov => ?_); have ov0 := fun x => ov x (b) (by (try simp) <;> omega); clear ov; (iterate 9 (iterate 8 (try go_big_quiet_step (first | (go_at_call 61; with_reducible exact callsOverSame (l1In_b h1 _)))))); refine wpQuiet_nil ?_; intro w9 hw9; have hb_w9 := below_over hw9; clear hw9 ov0
        go_wp2
        go_ret
        exact ⟨ret_bool HB.out.symm, by (repeat' (first | with_reducible exact Below.refl _ _ | with_reducible assumption | with_reducible refine Below.setCell ?_ ?_ _ | with_reducible refine Below.alloc ?_ ?_ _ | with_reducible refine Below.drew ?_ | with_reducible refine belDrewN ?_ _ | with_reducible refine Below.trans ?_ (Below.mono (by assumption) ?_) | omega | (simp; omega) | (simp; done)))⟩
    · have HE := Lib.hid (show shas xs t = false by
        have := HG.out
        rwa [List.take_of_length_le (by rw [HN.out]; omega)] at this)
      go_wp2
      go_ret
      exact ⟨ret_bool HE.out.symm, by (repeat' (first | with_reducible exact Below.refl _ _ | with_reducible assumption | with_reducible refine Below.setCell ?_ ?_ _ | with_reducible refine Below.alloc ?_ ?_ _ | with_reducible refine Below.drew ?_ | with_reducible refine belDrewN ?_ _ | with_reducible refine Below.trans ?_ (Below.mono (by assumption) ?_) | omega | (simp; omega) | (simp; done)))⟩
set_option maxHeartbeats 1000000 in
theorem implSH_any {lo : Nat} (xs : List Sp) (v : Value) (t : Int) (w : World) (hs : Sps lo w v xs) :
    Calls Tryd.prog 82 #[v, .int .i64 t] w fun e w' => e = .returned (.bool (shas xs t)) ∧ Below w.heap.size w w' := by
  obtain ⟨a, cap, rfl, hlc, hcm⟩ := hs.form
  unfold maxLen at hcm
  generalize hn : xs.length = n at *
  have HN := Lib.hid hn
  clear hn
  go_enter Tryd.func82, Tryd.ntmps82
  go_wp2_with fail
  go_loopw [9] (fun i wr => ∃ k : Nat, k ≤ n ∧ i = .int .i64 k ∧ shas (xs.take k) t = false ∧ Below w.heap.size w wr) (fun i _ => n - (intOf i).toNat)
  case atStart => exact ⟨0, by omega, rfl, rfl, by (repeat' (first | with_reducible exact Below.refl _ _ | with_reducible assumption | with_reducible refine Below.setCell ?_ ?_ _ | with_reducible refine Below.alloc ?_ ?_ _ | with_reducible refine Below.drew ?_ | with_reducible refine belDrewN ?_ _ | with_reducible refine Below.trans ?_ (Below.mono (by assumption) ?_) | omega | (simp; omega) | (simp; done)))⟩
  case round =>
    obtain ⟨k, hk, rfl, hG, hbr⟩ := hrel
    have HG := Lib.hid hG
    clear hG
    have hzr := hbr.size
    have hs2 := hs.below hbr
    by_cases hlt : k < n
    · obtain ⟨b, o, f1, f2, rfl, hbl, hx, c0, c1⟩ := hs2.at (show k < xs.length by rw [HN.out]; exact hlt)
      have HX := Lib.hid hx
      clear hx
      have i1 : (k : Int) < (n : Int) := by omega
      have i2 : (0 : Int) ≤ (k : Int) := by omega
      by_cases q1 : f1 ≤ t
      · by_cases q2 : t ≤ f2
        · have HB := Lib.hid (shas_hit HX.out (inB_true q1 q2))
          go_wp2
          go_ret
          exact ⟨ret_bool HB.out.symm, by (repeat' (first | with_reducible exact Below.refl _ _ | with_reducible assumption | with_reducible refine Below.setCell ?_ ?_ _ | with_reducible refine Below.alloc ?_ ?_ _ | with_reducible refine Below.drew ?_ | with_reducible refine belDrewN ?_ _ | with_reducible refine Below.trans ?_ (Below.mono (by assumption) ?_) | omega | (simp; omega) | (simp; done)))⟩
        · have HB := Lib.hid (shas_take_succ HG.out HX.out (inB_hi (n := t) (lo := f1) (hi := f2) (by omega)))
          go_wp2
          go_roundw
          case rel => exact ⟨k + 1, by omega, by go_num, HB.out, by (repeat' (first | with_reducible exact Below.refl _ _ | with_reducible assumption | with_reducible refine Below.setCell ?_ ?_ _ | with_reducible refine Below.alloc ?_ ?_ _ | with_reducible refine Below.drew ?_ | with_reducible refine belDrewN ?_ _ | with_reducible refine Below.trans ?_ (Below.mono (by assumption) ?_) | omega | (simp; omega) | (simp; done)))⟩
          case measure => simp [intOf]; omega
      · have HB := Lib.hid (shas_take_succ HG.out HX.out (inB_lo (n := t) (lo := f1) (hi := f2) (by omega)))
        go_wp2
        go_roundw
        case rel => exact ⟨k + 1, by omega, by go_num, HB.out, by (repeat' (first | with_reducible exact Below.refl _ _ | with_reducible assumption | with_reducible refine Below.setCell ?_ ?_ _ | with_reducible refine Below.alloc ?_ ?_ _ | with_reducible refine Below.drew ?_ | with_reducible refine belDrewN ?_ _ | with_reducible refine Below.trans ?_ (Below.mono (by assumption) ?_) | omega | (simp; omega) | (simp; done)))⟩
        case measure => simp [intOf]; omega
    · have HE := Lib.hid (show shas xs t = false by
        have := HG.out
        rwa [List.take_of_length_le (by rw [HN.out]; omega)] at this)
      go_wp2
      go_ret
      exact ⟨ret_bool HE.out.symm, by (repeat' (first | with_reducible exact Below.refl _ _ | with_reducible assumption | with_reducible refine Below.setCell ?_ ?_ _ | with_reducible refine Below.alloc ?_ ?_ _ | with_reducible refine Below.drew ?_ | with_reducible refine belDrewN ?_ _ | with_reducible refine Below.trans ?_ (Below.mono (by assumption) ?_) | omega | (simp; omega) | (simp; done)))⟩
theorem specSH_b {lo : Nat} {xs : List Sp} {v : Value} {t : Int} {w : World} {r : Bool} (hs : Sps lo w v xs) (h : shas xs t = r) :
    Calls Tryd.prog 100 #[v, .int .i64 t] w fun e w' => e = .returned (.bool r) ∧ Below w.heap.size w w' := by
  subst h
  exact specSH_any xs v t w hs
theorem implSH_b {lo : Nat} {xs : List Sp} {v : Value} {t : Int} {w : World} {r : Bool} (hs : Sps lo w v xs) (h : shas xs t = r) :
    Calls Tryd.prog 82 #[v, .int .i64 t] w fun e w' => e = .returned (.bool r) ∧ Below w.heap.size w w' := by
  subst h
  exact implSH_any xs v t w hs
set_option maxHeartbeats 400000 in
theorem specFTop_any (n : Nat) (hn : n < 4) (w : World) : Calls Tryd.prog 112 #[.int .i64 n] w fun e w' => e = .returned (.int .i64 (top n)) ∧ w = w' := by
  rcases (by omega : n = 0 ∨ n = 1 ∨ n = 2 ∨ n = 3) with rfl | rfl | rfl | rfl
  all_goals
    go_enter Tryd.func112, Tryd.ntmps112
    go_wp2
    go_ret
    exact ⟨rfl, rfl⟩
theorem top_le {n : Nat} (hn : n < 4) : 0 ≤ top n ∧ top n ≤ 65535 := by
  rcases (by omega : n = 0 ∨ n = 1 ∨ n = 2 ∨ n = 3) with rfl | rfl | rfl | rfl <;> decide
end Go.Proofs.YtkcnbkkgpampaaaDoor
