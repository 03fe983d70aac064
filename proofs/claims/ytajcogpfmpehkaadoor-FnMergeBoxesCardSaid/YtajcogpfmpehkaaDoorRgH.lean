/- The program's RegionValid and RegionHas. -/
import Derived.Test.YtajcogpfmpehkaaDoorDxAJ
import Derived.Test.YtajcogpfmpehkaaDoorLvS
namespace Go.Proofs.YtajcogpfmpehkaaDoor
open Go.RowKit
theorem Box4.bel {w w' : World} {b : Nat} {v0 v1 v2 v3 : Int} (h : Box4 w b v0 v1 v2 v3) (hb : Below w.heap.size w w') : Box4 w' b v0 v1 v2 v3 := h.mv (R := b + 1) (Mv.of_below hb) h.lt (by omega)
set_option maxHeartbeats 2000000 in
theorem implRV_any {lo : Nat} (bs : List Bx) (v : Value) (w : World) (hs : Bxs lo w v bs) (ht : Tab w) :
    Calls Tryd.prog 66 #[v] w fun e w' => e = .returned (.bool (rvalid bs)) ∧ Below w.heap.size w w' := by
  obtain ⟨a, cap, rfl, hlc, hcm⟩ := hs.form
  unfold maxLen at hcm
  generalize hn : bs.length = n at *
  have HN := Lib.hid hn
  by_cases h400 : 400 < n
  · have HE := Lib.hid (show rvalid bs = false by unfold rvalid; rw [HN.out, decide_eq_false (by omega)]; rfl)
    go_enter Tryd.func66, Tryd.ntmps66
    go_wp2
    go_ret
    exact ⟨ret_bool HE.out.symm, by (repeat' (first | with_reducible exact Below.refl _ _ | with_reducible assumption | with_reducible refine Below.setCell ?_ ?_ _ | with_reducible refine Below.alloc ?_ ?_ _ | with_reducible refine Below.drew ?_ | with_reducible refine belDrewN ?_ _ | with_reducible refine Below.trans ?_ (Below.mono (by assumption) ?_) | omega | (simp; omega) | (simp; done)))⟩
  · have h400' : n ≤ 400 := by omega
    clear hn
    go_enter Tryd.func66, Tryd.ntmps66
    go_wp2_with fail
    go_loopw [10] (fun i wr => ∃ k : Nat, k ≤ n ∧ i = .int .i64 k ∧ Hid (ROk bs k) ∧ Below w.heap.size w wr) (fun i _ => n - (intOf i).toNat)
    case atStart => exact ⟨0, by omega, rfl, Lib.hid (fun i b h => by omega), Below.refl _ _⟩
    case round =>
      obtain ⟨k, hk, rfl, HG, hbr⟩ := hrel
      have hzr := hbr.size
      have hs2 := hs.below hbr
      have ht2 := ht.below hbr
      by_cases hlt : k < n
      · have i1 : (k : Int) < (n : Int) := by omega
        have i2 : (0 : Int) ≤ (k : Int) := by omega
        obtain ⟨f, hx⟩ : ∃ f, bs[k]? = some f := ⟨_, List.getElem?_eq_getElem (by rw [HN.out]; exact hlt)⟩
        obtain ⟨b', o, sv, rfl, hbl, c0, hsv⟩ := hs2.at hx
        have HX := Lib.hid hx
        obtain ⟨sa', scap, rfl, -, -⟩ := hsv.form
        have HSV := Lib.hid hsv
        clear hx hsv
        generalize hbx : f.length = bl at *
        clear hbx
        obtain ⟨r, hv⟩ : ∃ r, bvalid f = r := ⟨_, rfl⟩
        go_wp2_with fail
        refine (implBV_b (HSV.out.below (by (repeat' (first | with_reducible exact Below.refl _ _ | with_reducible assumption | with_reducible refine Below.setCell ?_ ?_ _ | with_reducible refine Below.alloc ?_ ?_ _ | with_reducible refine Below.drew ?_ | with_reducible refine belDrewN ?_ _ | with_reducible refine Below.trans ?_ (Below.mono (by assumption) ?_) | omega | (simp; omega) | (simp; done))))) (ht2.below (by (repeat' (first | with_reducible exact Below.refl _ _ | with_reducible assumption | with_reducible refine Below.setCell ?_ ?_ _ | with_reducible refine Below.alloc ?_ ?_ _ | with_reducible refine Below.drew ?_ | with_reducible refine belDrewN ?_ _ | with_reducible refine Below.trans ?_ (Below.mono (by assumption) ?_) | omega | (simp; omega) | (simp; done))))) hv).mono ?_
        rintro e w9 ⟨rfl, hb9⟩
        have hb10 : Below w.heap.size w w9 := by (repeat' (first | with_reducible exact Below.refl _ _ | with_reducible assumption | with_reducible refine Below.setCell ?_ ?_ _ | with_reducible refine Below.alloc ?_ ?_ _ | with_reducible refine Below.drew ?_ | with_reducible refine belDrewN ?_ _ | with_reducible refine Below.trans ?_ (Below.mono (by assumption) ?_) | omega | (simp; omega) | (simp; done)))
        clear hb9
        cases r
        · have HE := Lib.hid (rvalid_no HX.out hv)
          go_wp2
          go_ret
          exact ⟨ret_bool HE.out.symm, hb10⟩
        · have HE := Lib.hid (HG.out.step HX.out hv)
          go_wp2
          go_roundw
          case rel => exact ⟨k + 1, by omega, by go_num, HE, hb10⟩
          case measure => simp [intOf]; omega
      · have hkn : k = n := by omega
        have HE := Lib.hid (show rvalid bs = true by
          have hG := HG.out
          rw [hkn, ← HN.out] at hG
          rw [rvalid_yes hG, HN.out, decide_eq_true h400'])
        go_wp2
        go_ret
        exact ⟨ret_bool HE.out.symm, hbr⟩
theorem implRV_b {lo : Nat} {bs : List Bx} {v : Value} {w : World} {r : Bool} (hs : Bxs lo w v bs) (ht : Tab w) (h : rvalid bs = r) :
    Calls Tryd.prog 66 #[v] w fun e w' => e = .returned (.bool r) ∧ Below w.heap.size w w' := by
  subst h
  exact implRV_any bs v w hs ht
end Go.Proofs.YtajcogpfmpehkaaDoor
