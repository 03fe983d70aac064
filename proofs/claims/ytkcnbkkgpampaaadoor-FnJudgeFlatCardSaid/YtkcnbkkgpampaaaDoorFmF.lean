/- Rules without calls: when they are valid. -/
import Derived.Test.YtkcnbkkgpampaaaDoorFmB
namespace Go.Proofs.YtkcnbkkgpampaaaDoor
open Go.RowKit
set_option maxHeartbeats 2000000 in
theorem specFV_any {lo : Nat} (fs : List Ft) (v : Value) (w : World) (hs : Fts lo w v fs) :
    Calls Tryd.prog 33 #[v] w fun e w' => e = .returned (.bool (fvalid fs)) ∧ Below w.heap.size w w' := by
  obtain ⟨a, cap, rfl, hlc, hcm⟩ := hs.form
  unfold maxLen at hcm
  generalize hn : fs.length = n at *
  have HN := Lib.hid hn
  clear hn
  go_enter Tryd.func33, Tryd.ntmps33
  go_wp2_with fail
  go_loopw [3] (fun i wr => ∃ k : Nat, k ≤ n ∧ i = .int .i64 k ∧ FOk fs k ∧ Below w.heap.size w wr) (fun i _ => n - (intOf i).toNat)
  case atStart => exact ⟨0, by omega, rfl, FOk.zero _, Below.refl _ _⟩
  case round =>
    obtain ⟨k, hk, rfl, hG, hbr⟩ := hrel
    have HG := Lib.hid hG
    clear hG
    have hzr := hbr.size
    have hs2 := hs.below hbr
    by_cases hlt : k < n
    · have i1 : (k : Int) < (n : Int) := by omega
      have i2 : (0 : Int) ≤ (k : Int) := by omega
      obtain ⟨f, hx⟩ : ∃ f, fs[k]? = some f := ⟨_, List.getElem?_eq_getElem (by rw [HN.out]; exact hlt)⟩
      obtain ⟨b', o, sv, rfl, hbl, c0, c1, hsv⟩ := hs2.at hx
      have HX := Lib.hid hx
      have HSV := Lib.hid hsv
      clear hx hsv c1
      obtain ⟨r, hv⟩ : ∃ r, bvalid f.box = r := ⟨_, rfl⟩
      go_wp2_with fail
      refine (specBV_b HSV.out hv).mono ?_
      rintro e w9 ⟨rfl, hb9⟩
      have hb10 : Below w.heap.size w w9 := hbr.trans (hb9.mono hzr)
      clear hb9
      cases r
      · have HE := Lib.hid (fvalid_no HX.out hv)
        go_wp2
        go_ret
        exact ⟨ret_bool HE.out.symm, hb10⟩
      · have HE := Lib.hid (HG.out.step HX.out hv)
        go_wp2
        go_roundw
        case rel => exact ⟨k + 1, by omega, by go_num, HE.out, hb10⟩
        case measure => simp [intOf]; omega
    · have hkn : k = n := by omega
      have HE := Lib.hid (show fvalid fs = decide (n ≤ 60) by
        have hG := HG.out
        rw [hkn, ← HN.out] at hG
        rw [fvalid_yes hG, HN.out])
      go_wp2
      go_ret
      exact ⟨ret_bool (by rw [HE.out]; exact decide_eq_decide.2 (by omega)), hbr⟩
theorem specFV_b {lo : Nat} {fs : List Ft} {v : Value} {w : World} {r : Bool} (hs : Fts lo w v fs) (h : fvalid fs = r) :
    Calls Tryd.prog 33 #[v] w fun e w' => e = .returned (.bool r) ∧ Below w.heap.size w w' := by
  subst h
  exact specFV_any fs v w hs
set_option maxHeartbeats 2000000 in
theorem implFV_any {lo : Nat} (fs : List Ft) (v : Value) (w : World) (hs : Fts lo w v fs) (ht : Tab w) :
    Calls Tryd.prog 65 #[v] w fun e w' => e = .returned (.bool (fvalid fs)) ∧ Below w.heap.size w w' := by
  obtain ⟨a, cap, rfl, hlc, hcm⟩ := hs.form
  unfold maxLen at hcm
  generalize hn : fs.length = n at *
  by_cases h60 : 60 < n
  · have HE := Lib.hid (fvalid_big (fs := fs) (by rw [hn]; exact h60))
    go_enter Tryd.func65, Tryd.ntmps65
    go_wp2
    go_ret
    exact ⟨ret_bool HE.out.symm, by (repeat' (first | with_reducible exact Below.refl _ _ | with_reducible assumption | with_reducible refine Below.setCell ?_ ?_ _ | with_reducible refine Below.alloc ?_ ?_ _ | with_reducible refine Below.drew ?_ | with_reducible refine belDrewN ?_ _ | with_reducible refine Below.trans ?_ (Below.mono (by assumption) ?_) | omega | (simp; omega) | (simp; done)))⟩
  · have HN := Lib.hid hn
    have h60' : n ≤ 60 := by omega
    clear hn
    go_enter Tryd.func65, Tryd.ntmps65
    go_wp2_with fail
    go_loopw [10] (fun i wr => ∃ k : Nat, k ≤ n ∧ i = .int .i64 k ∧ FOk fs k ∧ Below w.heap.size w wr) (fun i _ => n - (intOf i).toNat)
    case atStart => exact ⟨0, by omega, rfl, FOk.zero _, Below.refl _ _⟩
    case round =>
      obtain ⟨k, hk, rfl, hG, hbr⟩ := hrel
      have HG := Lib.hid hG
      clear hG
      have hzr := hbr.size
      have hs2 := hs.below hbr
      have ht2 := ht.below hbr
      by_cases hlt : k < n
      · have i1 : (k : Int) < (n : Int) := by omega
        have i2 : (0 : Int) ≤ (k : Int) := by omega
        obtain ⟨f, hx⟩ : ∃ f, fs[k]? = some f := ⟨_, List.getElem?_eq_getElem (by rw [HN.out]; exact hlt)⟩
        obtain ⟨b', o, sv, rfl, hbl, c0, c1, hsv⟩ := hs2.at hx
        have HX := Lib.hid hx
        obtain ⟨sa', scap, rfl, -, -⟩ := hsv.form
        have HSV := Lib.hid hsv
        clear hx hsv
        generalize hbx : f.box.length = bl at *
        clear hbx
        obtain ⟨r, hv⟩ : ∃ r, bvalid f.box = r := ⟨_, rfl⟩
        go_wp2_with fail
        refine (implBV_b (HSV.out.below (by (repeat' (first | with_reducible exact Below.refl _ _ | with_reducible assumption | with_reducible refine Below.setCell ?_ ?_ _ | with_reducible refine Below.alloc ?_ ?_ _ | with_reducible refine Below.drew ?_ | with_reducible refine belDrewN ?_ _ | with_reducible refine Below.trans ?_ (Below.mono (by assumption) ?_) | omega | (simp; omega) | (simp; done))))) (ht2.below (by (repeat' (first | with_reducible exact Below.refl _ _ | with_reducible assumption | with_reducible refine Below.setCell ?_ ?_ _ | with_reducible refine Below.alloc ?_ ?_ _ | with_reducible refine Below.drew ?_ | with_reducible refine belDrewN ?_ _ | with_reducible refine Below.trans ?_ (Below.mono (by assumption) ?_) | omega | (simp; omega) | (simp; done))))) hv).mono ?_
        rintro e w9 ⟨rfl, hb9⟩
        have hb10 : Below w.heap.size w w9 := by (repeat' (first | with_reducible exact Below.refl _ _ | with_reducible assumption | with_reducible refine Below.setCell ?_ ?_ _ | with_reducible refine Below.alloc ?_ ?_ _ | with_reducible refine Below.drew ?_ | with_reducible refine belDrewN ?_ _ | with_reducible refine Below.trans ?_ (Below.mono (by assumption) ?_) | omega | (simp; omega) | (simp; done)))
        clear hb9
        cases r
        · have HE := Lib.hid (fvalid_no HX.out hv)
          go_wp2
          go_ret
          exact ⟨ret_bool HE.out.symm, hb10⟩
        · have HE := Lib.hid (HG.out.step HX.out hv)
          go_wp2
          go_roundw
          case rel => exact ⟨k + 1, by omega, by go_num, HE.out, hb10⟩
          case measure => simp [intOf]; omega
      · have hkn : k = n := by omega
        have HE := Lib.hid (show fvalid fs = true by
          have hG := HG.out
          rw [hkn, ← HN.out] at hG
          rw [fvalid_yes hG, HN.out, decide_eq_true h60'])
        go_wp2
        go_ret
        exact ⟨ret_bool HE.out.symm, hbr⟩
theorem implFV_b {lo : Nat} {fs : List Ft} {v : Value} {w : World} {r : Bool} (hs : Fts lo w v fs) (ht : Tab w) (h : fvalid fs = r) :
    Calls Tryd.prog 65 #[v] w fun e w' => e = .returned (.bool r) ∧ Below w.heap.size w w' := by
  subst h
  exact implFV_any fs v w hs ht
end Go.Proofs.YtkcnbkkgpampaaaDoor
