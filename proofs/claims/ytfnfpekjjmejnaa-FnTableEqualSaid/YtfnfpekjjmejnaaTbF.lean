/- The reference's search in a table. -/
import Derived.Test.YtfnfpekjjmejnaaTbV
import Derived.Test.YtfnfpekjjmejnaaTrS
namespace Go.Proofs.Ytfnfpekjjmejnaa
open Go.RowKit
theorem sf_new {xs : List En} {p : Pf} {ex : Int} {k : Nat} {x : En} (hx : xs[k]? = some x) (h1 : (k : Int) ≠ ex) (h2 : Pf.within p x.w = true) (h3 : sf xs p ex k < 0 ∨ ∀ y, xs[(sf xs p ex k).toNat]? = some y → y.w.l < x.w.l) : sf xs p ex (k + 1) = k := by
  simp only [sf, hx]
  rw [if_pos ⟨h1, h2, h3⟩]
theorem sf_same {xs : List En} {p : Pf} {ex : Int} {k : Nat} {x : En} (hx : xs[k]? = some x) (h : (k : Int) = ex ∨ Pf.within p x.w = false ∨ ∃ j y, sf xs p ex k = (j : Nat) ∧ xs[j]? = some y ∧ x.w.l ≤ y.w.l) : sf xs p ex (k + 1) = sf xs p ex k := by
  simp only [sf, hx]
  rw [if_neg]
  rintro ⟨h1, h2, h3⟩
  rcases h with h | h | ⟨j, y, e1, e2, e3⟩
  · exact h1 h
  · rw [h] at h2; cases h2
  · rcases h3 with h3 | h3
    · omega
    · have := h3 y (by rw [e1]; simpa using e2)
      omega
set_option maxHeartbeats 2000000 in
theorem l18Find_any (xs : List En) (v : Value) (p1 p2 ex : Int) (w : World) (hs : Ens w v xs) :
    Calls Try.prog 50 #[v, .agg #[.int .i64 p1, .int .i64 p2], .int .i64 ex] w fun e w' => e = .returned (.int .i64 (sf xs ⟨p1, p2⟩ ex xs.length)) ∧ Below w.heap.size w w' := by
  obtain ⟨a, cap, rfl, hlc, hcm, -⟩ := id hs
  unfold maxLen at hcm
  generalize hn : xs.length = n at *
  have HN := Lib.hid hn
  clear hn
  go_enter Try.func50, Try.ntmps50
  go_wp2_with fail
  go_loopw [7, 8] (fun m i wr => ∃ k : Nat, k ≤ n ∧ m = .int .i64 (sf xs ⟨p1, p2⟩ ex k) ∧ i = .int .i64 k ∧ Below (w.heap.size + 1) (w.alloc (.cells #[.int .i64 p1, .int .i64 p2] 33)) wr) (fun _ i _ => n - (intOf i).toNat)
  case atStart => exact ⟨0, by omega, rfl, rfl, by (repeat' (first | with_reducible exact Below.refl _ _ | with_reducible assumption | with_reducible refine Below.setCell ?_ ?_ _ | with_reducible refine Below.alloc ?_ ?_ _ | with_reducible refine Below.drew ?_ | with_reducible refine belDrewN ?_ _ | with_reducible refine Below.trans ?_ (Below.mono (by assumption) ?_) | omega | (simp; omega) | (simp; done)))⟩
  case round =>
    obtain ⟨k, hk, rfl, rfl, hbr⟩ := hrel
    have hb3 : Below w.heap.size w wr := ((Below.refl _ _).alloc (Nat.le_refl _) _).trans (hbr.mono (by omega))
    have hs2 := Lib.hid (hs.below hb3)
    have hzr := hbr.size; simp at hzr
    have kb := belCells hbr w.heap.size (by omega)
    have b0 := kb 0; have b1 := kb 1
    simp at b0 b1
    clear kb
    have hok := sf_ok xs ⟨p1, p2⟩ ex k (by rw [HN.out]; exact hk)
    generalize hr : sf xs ⟨p1, p2⟩ ex k = r at *
    have HR := Lib.hid hr
    clear hr
    by_cases hlt : k < n
    · obtain ⟨b, o, f1, f2, f3, rfl, hbl, hx, c0, c1, c2⟩ := hs2.out.at (show k < xs.length by rw [HN.out]; exact hlt)
      have HX := Lib.hid hx; clear hx
      have i1 : (k : Int) < (n : Int) := by omega
      have i2 : (0 : Int) ≤ (k : Int) := by omega
      by_cases hex : (k : Int) = ex
      · have g1 : ((k : Int) == ex) = true := by simpa using hex
        have g2 : ((k : Int) != ex) = false := by simpa using hex
        have HE := Lib.hid (sf_same HX.out (p := ⟨p1, p2⟩) (ex := ex) (.inl hex))
        clear hex hok
        go_wp2_with fail
        refine wp_region_over (by kernel_rfl) (by kernel_rfl) (fun ov => ?_); have ov0 := fun x => ov x (b) (by (try simp) <;> omega); have ov1 := fun x => ov x (w.heap.size) (by (try simp) <;> omega); clear ov; (repeat (go_big_quiet_step (first | fail))); refine wpQuiet_nil ?_; intro w9 hw9; have hb_w9 := below_over hw9; clear hw9 ov0 ov1
        go_wp2
        go_roundw
        case rel => exact ⟨k + 1, by omega, by rw [HE.out, HR.out], by go_num, by (repeat' (first | with_reducible exact Below.refl _ _ | with_reducible assumption | with_reducible refine Below.setCell ?_ ?_ _ | with_reducible refine Below.alloc ?_ ?_ _ | with_reducible refine Below.drew ?_ | with_reducible refine belDrewN ?_ _ | with_reducible refine Below.trans ?_ (Below.mono (by assumption) ?_) | omega | (simp; omega) | (simp; done)))⟩
        case measure => simp [intOf]; omega
      · have g1 : ((k : Int) == ex) = false := by simpa using hex
        have g2 : ((k : Int) != ex) = true := by simpa using hex
        have HNE := Lib.hid hex
        cases hw : Pf.within ⟨p1, p2⟩ ⟨f1, f2⟩
        · have HE := Lib.hid (sf_same HX.out (p := ⟨p1, p2⟩) (ex := ex) (.inr (.inl hw)))
          clear hex hok
          go_wp2_with fail
          refine wp_region_over (by kernel_rfl) (by kernel_rfl) (fun ov => ?_); have ov0 := fun x => ov x (b) (by (try simp) <;> omega); have ov1 := fun x => ov x (w.heap.size) (by (try simp) <;> omega); clear ov; (repeat (go_big_quiet_step (first | (go_at_call 66; exact callsOver (specWithin_b hw _))))); refine wpQuiet_nil ?_; intro w9 hw9; have hb_w9 := below_over hw9; clear hw9 ov0 ov1
          go_wp2
          go_roundw
          case rel => exact ⟨k + 1, by omega, by rw [HE.out, HR.out], by go_num, by (repeat' (first | with_reducible exact Below.refl _ _ | with_reducible assumption | with_reducible refine Below.setCell ?_ ?_ _ | with_reducible refine Below.alloc ?_ ?_ _ | with_reducible refine Below.drew ?_ | with_reducible refine belDrewN ?_ _ | with_reducible refine Below.trans ?_ (Below.mono (by assumption) ?_) | omega | (simp; omega) | (simp; done)))⟩
          case measure => simp [intOf]; omega
        · rcases hok with ⟨rfl, -⟩ | ⟨j, y, h1, rfl, -, h4, -, -⟩
          · have HE := Lib.hid (sf_new HX.out HNE.out hw (.inl (by rw [HR.out]; omega)))
            clear hex
            go_wp2_with fail
            refine wp_region_over (by kernel_rfl) (by kernel_rfl) (fun ov => ?_); have ov0 := fun x => ov x (b) (by (try simp) <;> omega); have ov1 := fun x => ov x (w.heap.size) (by (try simp) <;> omega); clear ov; (repeat (go_big_quiet_step (first | (go_at_call 66; exact callsOver (specWithin_b hw _))))); refine wpQuiet_nil ?_; intro w9 hw9; have hb_w9 := below_over hw9; clear hw9 ov0 ov1
            go_wp2
            go_roundw
            case rel => exact ⟨k + 1, by omega, by rw [HE.out], by go_num, by (repeat' (first | with_reducible exact Below.refl _ _ | with_reducible assumption | with_reducible refine Below.setCell ?_ ?_ _ | with_reducible refine Below.alloc ?_ ?_ _ | with_reducible refine Below.drew ?_ | with_reducible refine belDrewN ?_ _ | with_reducible refine Below.trans ?_ (Below.mono (by assumption) ?_) | omega | (simp; omega) | (simp; done)))⟩
            case measure => simp [intOf]; omega
          · obtain ⟨⟨e1, e2⟩, e3⟩ := y
            obtain ⟨-, d0, d1, d2⟩ := hs2.out.get h4
            have HY := Lib.hid h4; clear h4
            have i3 : (j : Int) < (n : Int) := by omega
            have i4 : (0 : Int) ≤ (j : Int) := by omega
            have i5 : decide ((j : Int) < 0) = false := by simp
            by_cases hl : e2 < f2
            · have HE := Lib.hid (sf_new HX.out HNE.out hw (.inr (fun y hy => by
                rw [HR.out, Int.toNat_natCast, HY.out] at hy
                cases hy
                exact hl)))
              have g3 : decide (e2 < f2) = true := by simpa using hl
              clear hex
              go_wp2_with fail
              refine wp_region_over (by kernel_rfl) (by kernel_rfl) (fun ov => ?_); have ov0 := fun x => ov x (b) (by (try simp) <;> omega); have ov1 := fun x => ov x (w.heap.size) (by (try simp) <;> omega); clear ov; (repeat (go_big_quiet_step (first | (go_at_call 66; exact callsOver (specWithin_b hw _))))); refine wpQuiet_nil ?_; intro w9 hw9; have hb_w9 := below_over hw9; clear hw9 ov0 ov1
              go_wp2
              go_roundw
              case rel => exact ⟨k + 1, by omega, by rw [HE.out], by go_num, by (repeat' (first | with_reducible exact Below.refl _ _ | with_reducible assumption | with_reducible refine Below.setCell ?_ ?_ _ | with_reducible refine Below.alloc ?_ ?_ _ | with_reducible refine Below.drew ?_ | with_reducible refine belDrewN ?_ _ | with_reducible refine Below.trans ?_ (Below.mono (by assumption) ?_) | omega | (simp; omega) | (simp; done)))⟩
              case measure => simp [intOf]; omega
            · have HE := Lib.hid (sf_same HX.out (p := ⟨p1, p2⟩) (ex := ex) (.inr (.inr ⟨j, _, HR.out, HY.out, by simpa using hl⟩)))
              have g3 : decide (e2 < f2) = false := by simpa using hl
              clear hex
              go_wp2_with fail
              refine wp_region_over (by kernel_rfl) (by kernel_rfl) (fun ov => ?_); have ov0 := fun x => ov x (b) (by (try simp) <;> omega); have ov1 := fun x => ov x (w.heap.size) (by (try simp) <;> omega); clear ov; (repeat (go_big_quiet_step (first | (go_at_call 66; exact callsOver (specWithin_b hw _))))); refine wpQuiet_nil ?_; intro w9 hw9; have hb_w9 := below_over hw9; clear hw9 ov0 ov1
              go_wp2
              go_roundw
              case rel => exact ⟨k + 1, by omega, by rw [HE.out, HR.out], by go_num, by (repeat' (first | with_reducible exact Below.refl _ _ | with_reducible assumption | with_reducible refine Below.setCell ?_ ?_ _ | with_reducible refine Below.alloc ?_ ?_ _ | with_reducible refine Below.drew ?_ | with_reducible refine belDrewN ?_ _ | with_reducible refine Below.trans ?_ (Below.mono (by assumption) ?_) | omega | (simp; omega) | (simp; done)))⟩
              case measure => simp [intOf]; omega
    · have HE := Lib.hid (show k = n by omega)
      clear hok
      go_wp2
      go_ret
      exact ⟨ret_int (by rw [← HR.out, HE.out]), by (repeat' (first | with_reducible exact Below.refl _ _ | with_reducible assumption | with_reducible refine Below.setCell ?_ ?_ _ | with_reducible refine Below.alloc ?_ ?_ _ | with_reducible refine Below.drew ?_ | with_reducible refine belDrewN ?_ _ | with_reducible refine Below.trans ?_ (Below.mono (by assumption) ?_) | omega | (simp; omega) | (simp; done)))⟩
end Go.Proofs.Ytfnfpekjjmejnaa
