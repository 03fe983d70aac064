/- The law FnExpireFlows: the walk. -/
import Derived.Test.YtlppchkilinpfaaDoorEFp
import Derived.Test.YtlppchkilinpfaaDoorAlive
namespace Go.Proofs.YtlppchkilinpfaaDoor
open Go.RowKit
set_option maxHeartbeats 2000000 in
theorem law_FnExpireFlows (bs bs2 : List Int) (v v2 : Value) (w : World) (h : CodeAt w v bs) (h2 : CodeAt w v2 bs2) (ht : Tab w) :
    Calls Tryd.prog 10 #[v, v2] w fun e w' => e = .returned (.bool true) ∧ Below w.heap.size w w' := by
  have h' := h
  obtain ⟨a, cap, rfl, l1, l2, hx⟩ := code_cells h'
  have h'' := h2
  obtain ⟨a2, cap2, rfl, m1, m2, hx2⟩ := code_cells h''
  clear hx h' hx2 h'' h2
  unfold maxLen at l2 m2
  generalize hn2 : bs2.length = n2 at *
  clear hn2
  by_cases hl : 1048576 < bs.length
  · go_enter Tryd.func10, Tryd.ntmps10
    go_wp2
    go_ret
    exact ⟨rfl, by (repeat' (first | with_reducible exact Below.refl _ _ | with_reducible assumption | with_reducible refine Below.setCell ?_ ?_ _ | with_reducible refine Below.alloc ?_ ?_ _ | with_reducible refine Below.drew ?_ | with_reducible refine belDrewN ?_ _ | with_reducible refine Below.trans ?_ (Below.mono (by assumption) ?_) | omega | (simp; omega) | (simp; done)))⟩
  · by_cases hl2 : 1048576 < n2
    · go_enter Tryd.func10, Tryd.ntmps10
      go_wp2
      go_ret
      exact ⟨rfl, by (repeat' (first | with_reducible exact Below.refl _ _ | with_reducible assumption | with_reducible refine Below.setCell ?_ ?_ _ | with_reducible refine Below.alloc ?_ ?_ _ | with_reducible refine Below.drew ?_ | with_reducible refine belDrewN ?_ _ | with_reducible refine Below.trans ?_ (Below.mono (by assumption) ?_) | omega | (simp; omega) | (simp; done)))⟩
    · go_enter Tryd.func10, Tryd.ntmps10
      go_wp2_with fail
      refine (drawEF_any _ _ _ h).mono ?_
      rintro e w0 ⟨v0, xs, t, rfl, ho, hlen, ht0, ht1, hb0⟩
      have hz0 := hb0.size
      have hs := OwnFl.fls ho
      clear ho
      obtain ⟨ys, hys⟩ : ∃ ys, expire xs t = ys := ⟨_, rfl⟩
      go_wp2_with fail
      refine (implEF_any xs _ t _ hs (ht.below hb0)).mono ?_
      rw [hys]
      rintro e w1 ⟨v1, rfl, ho1, hb1⟩
      have hz1 := hb1.size
      have hw1 : Below w.heap.size w w1 := by (repeat' (first | with_reducible exact Below.refl _ _ | with_reducible assumption | with_reducible refine Below.setCell ?_ ?_ _ | with_reducible refine Below.alloc ?_ ?_ _ | with_reducible refine Below.drew ?_ | with_reducible refine belDrewN ?_ _ | with_reducible refine Below.trans ?_ (Below.mono (by assumption) ?_) | omega | (simp; omega) | (simp; done)))
      go_wp2_with fail
      refine (specEF_any xs _ t _ (hs.below hb1)).mono ?_
      rw [hys]
      rintro e w2 ⟨v2, rfl, ho2, hb2⟩
      have hz2 := hb2.size
      have hw2 : Below w.heap.size w w2 := by (repeat' (first | with_reducible exact Below.refl _ _ | with_reducible assumption | with_reducible refine Below.setCell ?_ ?_ _ | with_reducible refine Below.alloc ?_ ?_ _ | with_reducible refine Below.drew ?_ | with_reducible refine belDrewN ?_ _ | with_reducible refine Below.trans ?_ (Below.mono (by assumption) ?_) | omega | (simp; omega) | (simp; done)))
      have hs2 : Fls w2 v1 ys := OwnFl.fls (OwnFl.below ho1 hb2)
      have hs3 := OwnFl.fls ho2
      clear ho1 ho2
      go_wp2_with fail
      refine (sameFlows_eq ys _ _ _ hs2 hs3).mono ?_
      rintro e w3 ⟨rfl, hb3⟩
      have hz3 := hb3.size
      have hw3 : Below w.heap.size w w3 := by (repeat' (first | with_reducible exact Below.refl _ _ | with_reducible assumption | with_reducible refine Below.setCell ?_ ?_ _ | with_reducible refine Below.alloc ?_ ?_ _ | with_reducible refine Below.drew ?_ | with_reducible refine belDrewN ?_ _ | with_reducible refine Below.trans ?_ (Below.mono (by assumption) ?_) | omega | (simp; omega) | (simp; done)))
      have hq3 : Below w0.heap.size w0 w3 := (hb1.trans (hb2.mono hz1)).trans (hb3.mono (by omega))
      have hs4 : Fls w3 v1 ys := hs2.below hb3
      clear hs2 hs3
      obtain ⟨a3, cap3, rfl, k1, k2, -⟩ := id hs4
      unfold maxLen at k2
      have HY := Lib.hid hys
      clear hys
      cases hv : fvalid xs
      · have hy0 : ys = [] := by rw [← HY.out]; exact expire_bad (by simp [hv])
        clear HY
        subst hy0
        
        go_wp2_with fail; refine (specFV_b (hs.below hq3) hv).mono ?_; rintro e w1 ⟨rfl, hb1⟩; obtain ⟨hc1, hf1⟩ := bcell hb1; have hz1 := hb1.size; (try simp at hz1); (try have hz1_w_0 : w.heap.size < w1.heap.size := (by omega)); (try have hz1_w_1 : w.heap.size + 1 < w1.heap.size := (by omega)); (try have hz1_w_2 : w.heap.size + 2 < w1.heap.size := (by omega)); (try have hz1_w0_0 : w0.heap.size < w1.heap.size := (by omega)); (try have hz1_w0_1 : w0.heap.size + 1 < w1.heap.size := (by omega)); (try have hz1_w0_2 : w0.heap.size + 2 < w1.heap.size := (by omega)); (try have hz1_w3_0 : w3.heap.size < w1.heap.size := (by omega)); (try have hz1_w3_1 : w3.heap.size + 1 < w1.heap.size := (by omega)); (try have hz1_w3_2 : w3.heap.size + 2 < w1.heap.size := (by omega))
        go_wp2_with fail; refine (alive_any _).mono ?_; rintro e w2 ⟨rfl, hb2⟩; obtain ⟨hc2, hf2⟩ := bcell hb2; have hz2 := hb2.size; (try simp at hz2); (try have hz2_w_0 : w.heap.size < w2.heap.size := (by omega)); (try have hz2_w_1 : w.heap.size + 1 < w2.heap.size := (by omega)); (try have hz2_w_2 : w.heap.size + 2 < w2.heap.size := (by omega)); (try have hz2_w0_0 : w0.heap.size < w2.heap.size := (by omega)); (try have hz2_w0_1 : w0.heap.size + 1 < w2.heap.size := (by omega)); (try have hz2_w0_2 : w0.heap.size + 2 < w2.heap.size := (by omega)); (try have hz2_w3_0 : w3.heap.size < w2.heap.size := (by omega)); (try have hz2_w3_1 : w3.heap.size + 1 < w2.heap.size := (by omega)); (try have hz2_w3_2 : w3.heap.size + 2 < w2.heap.size := (by omega)); (try have hz2_w1_0 : w1.heap.size < w2.heap.size := (by omega)); (try have hz2_w1_1 : w1.heap.size + 1 < w2.heap.size := (by omega)); (try have hz2_w1_2 : w1.heap.size + 2 < w2.heap.size := (by omega))
        go_wp2
        go_ret
        exact ⟨rfl, by (repeat' (first | with_reducible exact Below.refl _ _ | with_reducible assumption | with_reducible refine Below.setCell ?_ ?_ _ | with_reducible refine Below.alloc ?_ ?_ _ | with_reducible refine Below.drew ?_ | with_reducible refine belDrewN ?_ _ | with_reducible refine Below.trans ?_ (Below.mono (by assumption) ?_) | omega | (simp; omega) | (simp; done)))⟩
      · cases hin : inB t 0 1000000
        · have hy0 : ys = [] := by rw [← HY.out]; exact expire_bad (by simp [hin])
          clear HY
          subst hy0
          by_cases htn : t < 0
          · 
            go_wp2_with fail; refine (specFV_b (hs.below hq3) hv).mono ?_; rintro e w1 ⟨rfl, hb1⟩; obtain ⟨hc1, hf1⟩ := bcell hb1; have hz1 := hb1.size; (try simp at hz1); (try have hz1_w_0 : w.heap.size < w1.heap.size := (by omega)); (try have hz1_w_1 : w.heap.size + 1 < w1.heap.size := (by omega)); (try have hz1_w_2 : w.heap.size + 2 < w1.heap.size := (by omega)); (try have hz1_w0_0 : w0.heap.size < w1.heap.size := (by omega)); (try have hz1_w0_1 : w0.heap.size + 1 < w1.heap.size := (by omega)); (try have hz1_w0_2 : w0.heap.size + 2 < w1.heap.size := (by omega)); (try have hz1_w3_0 : w3.heap.size < w1.heap.size := (by omega)); (try have hz1_w3_1 : w3.heap.size + 1 < w1.heap.size := (by omega)); (try have hz1_w3_2 : w3.heap.size + 2 < w1.heap.size := (by omega))
            go_wp2_with fail; refine (alive_any _).mono ?_; rintro e w2 ⟨rfl, hb2⟩; obtain ⟨hc2, hf2⟩ := bcell hb2; have hz2 := hb2.size; (try simp at hz2); (try have hz2_w_0 : w.heap.size < w2.heap.size := (by omega)); (try have hz2_w_1 : w.heap.size + 1 < w2.heap.size := (by omega)); (try have hz2_w_2 : w.heap.size + 2 < w2.heap.size := (by omega)); (try have hz2_w0_0 : w0.heap.size < w2.heap.size := (by omega)); (try have hz2_w0_1 : w0.heap.size + 1 < w2.heap.size := (by omega)); (try have hz2_w0_2 : w0.heap.size + 2 < w2.heap.size := (by omega)); (try have hz2_w3_0 : w3.heap.size < w2.heap.size := (by omega)); (try have hz2_w3_1 : w3.heap.size + 1 < w2.heap.size := (by omega)); (try have hz2_w3_2 : w3.heap.size + 2 < w2.heap.size := (by omega)); (try have hz2_w1_0 : w1.heap.size < w2.heap.size := (by omega)); (try have hz2_w1_1 : w1.heap.size + 1 < w2.heap.size := (by omega)); (try have hz2_w1_2 : w1.heap.size + 2 < w2.heap.size := (by omega))
            go_wp2
            go_ret
            exact ⟨rfl, by (repeat' (first | with_reducible exact Below.refl _ _ | with_reducible assumption | with_reducible refine Below.setCell ?_ ?_ _ | with_reducible refine Below.alloc ?_ ?_ _ | with_reducible refine Below.drew ?_ | with_reducible refine belDrewN ?_ _ | with_reducible refine Below.trans ?_ (Below.mono (by assumption) ?_) | omega | (simp; omega) | (simp; done)))⟩
          · have htm : 1000000 < t := by
              by_cases hq : 1000000 < t
              · exact hq
              · rw [inB_true (by omega) (by omega)] at hin; cases hin
            
            go_wp2_with fail; refine (specFV_b (hs.below hq3) hv).mono ?_; rintro e w1 ⟨rfl, hb1⟩; obtain ⟨hc1, hf1⟩ := bcell hb1; have hz1 := hb1.size; (try simp at hz1); (try have hz1_w_0 : w.heap.size < w1.heap.size := (by omega)); (try have hz1_w_1 : w.heap.size + 1 < w1.heap.size := (by omega)); (try have hz1_w_2 : w.heap.size + 2 < w1.heap.size := (by omega)); (try have hz1_w0_0 : w0.heap.size < w1.heap.size := (by omega)); (try have hz1_w0_1 : w0.heap.size + 1 < w1.heap.size := (by omega)); (try have hz1_w0_2 : w0.heap.size + 2 < w1.heap.size := (by omega)); (try have hz1_w3_0 : w3.heap.size < w1.heap.size := (by omega)); (try have hz1_w3_1 : w3.heap.size + 1 < w1.heap.size := (by omega)); (try have hz1_w3_2 : w3.heap.size + 2 < w1.heap.size := (by omega))
            go_wp2_with fail; refine (alive_any _).mono ?_; rintro e w2 ⟨rfl, hb2⟩; obtain ⟨hc2, hf2⟩ := bcell hb2; have hz2 := hb2.size; (try simp at hz2); (try have hz2_w_0 : w.heap.size < w2.heap.size := (by omega)); (try have hz2_w_1 : w.heap.size + 1 < w2.heap.size := (by omega)); (try have hz2_w_2 : w.heap.size + 2 < w2.heap.size := (by omega)); (try have hz2_w0_0 : w0.heap.size < w2.heap.size := (by omega)); (try have hz2_w0_1 : w0.heap.size + 1 < w2.heap.size := (by omega)); (try have hz2_w0_2 : w0.heap.size + 2 < w2.heap.size := (by omega)); (try have hz2_w3_0 : w3.heap.size < w2.heap.size := (by omega)); (try have hz2_w3_1 : w3.heap.size + 1 < w2.heap.size := (by omega)); (try have hz2_w3_2 : w3.heap.size + 2 < w2.heap.size := (by omega)); (try have hz2_w1_0 : w1.heap.size < w2.heap.size := (by omega)); (try have hz2_w1_1 : w1.heap.size + 1 < w2.heap.size := (by omega)); (try have hz2_w1_2 : w1.heap.size + 2 < w2.heap.size := (by omega))
            go_wp2
            go_ret
            exact ⟨rfl, by (repeat' (first | with_reducible exact Below.refl _ _ | with_reducible assumption | with_reducible refine Below.setCell ?_ ?_ _ | with_reducible refine Below.alloc ?_ ?_ _ | with_reducible refine Below.drew ?_ | with_reducible refine belDrewN ?_ _ | with_reducible refine Below.trans ?_ (Below.mono (by assumption) ?_) | omega | (simp; omega) | (simp; done)))⟩
        · obtain ⟨hi0, hi1⟩ := inB_iff.1 hin
          have HIN := Lib.hid hin
          have HV := Lib.hid hv
          clear hin
          generalize hn : ys.length = n at *
          have HN := Lib.hid hn
          clear hn
          
          go_wp2_with fail; refine (specFV_b (hs.below hq3) hv).mono ?_; rintro e w1 ⟨rfl, hb1⟩; obtain ⟨hc1, hf1⟩ := bcell hb1; have hz1 := hb1.size; (try simp at hz1); (try have hz1_w_0 : w.heap.size < w1.heap.size := (by omega)); (try have hz1_w_1 : w.heap.size + 1 < w1.heap.size := (by omega)); (try have hz1_w_2 : w.heap.size + 2 < w1.heap.size := (by omega)); (try have hz1_w0_0 : w0.heap.size < w1.heap.size := (by omega)); (try have hz1_w0_1 : w0.heap.size + 1 < w1.heap.size := (by omega)); (try have hz1_w0_2 : w0.heap.size + 2 < w1.heap.size := (by omega)); (try have hz1_w3_0 : w3.heap.size < w1.heap.size := (by omega)); (try have hz1_w3_1 : w3.heap.size + 1 < w1.heap.size := (by omega)); (try have hz1_w3_2 : w3.heap.size + 2 < w1.heap.size := (by omega))
          have hq4 : Below w0.heap.size w0 w1 := hq3.trans (hb1.mono (by omega))
          have hw4 : Below w.heap.size w w1 := hw3.trans (hb1.mono (by omega))
          have hs5 : Fls w1 (.slice a3 n cap3) ys := hs4.below hb1
          have HE : ∀ (k : Nat) (x : Fl), ys[k]? = some x → known ys x.who t = k := fun k x hx => by
            have := expire_known (xs := xs) (now := t) HV.out HIN.out (k := k) (x := x) (by rw [HY.out]; exact hx)
            rwa [HY.out] at this
          have HEK := Lib.hid HE
          have HYV := Lib.hid (show fvalid ys = true by rw [← HY.out]; exact expire_valid HV.out HIN.out)
          have HYL := Lib.hid (show ∀ later, inB later 0 1000000 = true → t ≤ later → expire ys later = expire xs later from fun later h1 h2 => by rw [← HY.out]; exact expire_later HV.out HIN.out h1 h2)
          clear HE hc1 hf1 hs4 hq3 hw3 hw1 hw2
          obtain ⟨w4, rfl⟩ : ∃ x : World, x = w1 := ⟨_, rfl⟩
          clear hb1 hb2 hb3
          go_wp2_with fail
          go_loopw [8] (fun i wr => ∃ k : Nat, k ≤ n ∧ i = .int .i64 k ∧ Below w4.heap.size w4 wr) (fun i _ => n - (intOf i).toNat)
          case atStart => exact ⟨0, by omega, rfl, by (repeat' (first | with_reducible exact Below.refl _ _ | with_reducible assumption | with_reducible refine Below.setCell ?_ ?_ _ | with_reducible refine Below.alloc ?_ ?_ _ | with_reducible refine Below.drew ?_ | with_reducible refine belDrewN ?_ _ | with_reducible refine Below.trans ?_ (Below.mono (by assumption) ?_) | omega | (simp; omega) | (simp; done)))⟩
          case round =>
            obtain ⟨k, hk, rfl, hbr⟩ := hrel
            have hzr := hbr.size
            have hs6 := Lib.hid (hs5.below hbr)
            have ht6 := Lib.hid ((ht.below hw4).below hbr)
            by_cases hlt : k < n
            · obtain ⟨b, o, f1, f2, f3, f4, u, rfl, hbl, hx, c0, c1, c2, c3, c4⟩ := hs6.out.at (show k < ys.length by rw [HN.out]; exact hlt)
              have HK := Lib.hid (HEK.out k _ hx)
              clear hx
              have i1 : (k : Int) < (n : Int) := by omega
              have i2 : (0 : Int) ≤ (k : Int) := by omega
              go_wp2_with fail
              refine (implKF_b hs6.out ht6.out HK.out).mono ?_
              rintro e w5 ⟨rfl, hb5⟩
              have hz5 := hb5.size
              clear c0 c1 c2 c3 c4
              go_wp2
              go_roundw
              case rel => exact ⟨k + 1, by omega, by go_num, hbr.trans (hb5.mono hzr)⟩
              case measure => simp [intOf]; omega
            · have hs7 := hs.below (hq4.trans (hbr.mono hq4.size))
              have hw5 : Below w.heap.size w wr := hw4.trans (hbr.mono hw4.size)
              clear hq4 hw4
              go_wp2_with fail
              all_goals
                refine (implFV_b hs6.out ht6.out HYV.out).mono ?_
                rintro e w5 ⟨rfl, hb5⟩
                have hz5 := hb5.size
                go_wp2_with fail
                refine (implEF_any ys _ _ _ (hs6.out.below hb5) (ht6.out.below hb5)).mono ?_
                rintro e w6 ⟨v6, rfl, ho6, hb6⟩
                have hz6 := hb6.size
                rw [HYL.out _ (inB_true (by omega) (by omega)) (by omega)] at ho6
                have hb7 := hb5.trans (hb6.mono hz5)
                go_wp2_with fail
                refine (implEF_any xs _ _ _ (hs7.below hb7) (ht6.out.below hb7)).mono ?_
                rintro e w8 ⟨v8, rfl, ho8, hb8⟩
                have hz8 := hb8.size
                have hg6 := OwnFl.fls (OwnFl.below ho6 hb8)
                have hg8 := OwnFl.fls ho8
                clear ho6 ho8
                go_wp2_with fail
                refine (sameFlows_eq _ _ _ _ hg6 hg8).mono ?_
                rintro e w9 ⟨rfl, hb9⟩
                have hf : Below w.heap.size w w9 := (hw5.trans (hb7.mono hw5.size)).trans ((hb8.trans (hb9.mono hz8)).mono (by have := hw5.size; omega))
                clear hg6 hg8
                go_wp2
                go_ret
                exact ⟨rfl, hf⟩
end Go.Proofs.YtlppchkilinpfaaDoor
