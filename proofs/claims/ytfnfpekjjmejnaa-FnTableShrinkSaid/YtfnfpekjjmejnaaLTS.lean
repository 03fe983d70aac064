/- The law FnTableShrink: the walk. -/
import Derived.Test.YtfnfpekjjmejnaaRdTV
import Derived.Test.YtfnfpekjjmejnaaShP
import Derived.Test.YtfnfpekjjmejnaaTbE
namespace Go.Proofs.Ytfnfpekjjmejnaa
open Go.RowKit
theorem implTF_g {xs : List En} {v : Value} {a : Int} {w : World} {g : Int → Int} (hs : Ens w v xs) (h : ∀ a, tfind xs a = g a) :
    Calls Try.prog 23 #[v, .int .i64 a] w fun e w' => e = .returned (.int .i64 (g a)) ∧ Below w.heap.size w w' := by
  rw [← h a]
  exact implTF_any xs v a w hs
set_option maxRecDepth 100000 in
set_option maxHeartbeats 4000000 in
theorem law_FnTableShrink (bs : List Int) (v : Value) (w : World) (h : CodeAt w v bs) :
    Calls Try.prog 10 #[v] w fun e w' => e = .returned (.bool true) ∧ Below w.heap.size w w' := by
  have h' := h
  obtain ⟨a, cap, rfl, l1, l2, hx⟩ := code_cells h'
  clear hx h'
  unfold maxLen at l2
  by_cases hl : 1048576 < bs.length
  · go_enter Try.func10, Try.ntmps10
    go_wp2
    go_ret
    exact ⟨rfl, by (repeat' (first | with_reducible exact Below.refl _ _ | with_reducible assumption | with_reducible refine Below.setCell ?_ ?_ _ | with_reducible refine Below.alloc ?_ ?_ _ | with_reducible refine Below.drew ?_ | with_reducible refine belDrewN ?_ _ | with_reducible refine Below.trans ?_ (Below.mono (by assumption) ?_) | omega | (simp; omega) | (simp; done)))⟩
  · go_enter Try.func10, Try.ntmps10
    go_wp2_with fail
    refine (drawTS_any _ _ _ h).mono ?_
    rintro e w0 ⟨v0, xs, rfl, ho, hlen, hb0⟩
    have hz0 := hb0.size
    have hs := OwnEn.ens ho
    clear ho h
    obtain ⟨zs, hzs⟩ : ∃ zs, tshrink xs = zs := ⟨_, rfl⟩
    go_wp2_with fail
    refine (implTS_any xs _ _ hs).mono ?_
    rw [hzs]
    rintro e w1 ⟨v1, rfl, ho1, hb1⟩
    have hz1 := hb1.size
    have hs1 : Ens w1 v1 zs := OwnEn.ens ho1
    clear ho1
    go_wp2_with fail
    refine (specTS_any xs _ _ (hs.below hb1)).mono ?_
    rw [hzs]
    rintro e w2 ⟨v2, rfl, ho2, hb2⟩
    have hz2 := hb2.size
    have hs2 := OwnEn.ens ho2
    clear ho2
    go_wp2_with fail
    refine (sameTable_eq zs _ _ _ (hs1.below hb2) hs2).mono ?_
    rintro e w3 ⟨rfl, hb3⟩
    have hq3 : Below w0.heap.size w0 w3 := (hb1.trans (hb2.mono hz1)).trans (hb3.mono (by omega))
    have hx3 : Ens w3 v1 zs := (hs1.below hb2).below hb3
    have hl3 := hs.below hq3
    have hw3 : Below w.heap.size w w3 := hb0.trans (hq3.mono hz0)
    clear hs hs1 hs2 hb1 hb2 hb3 hb0 hq3
    obtain ⟨sa, cap0, rfl, hlc, hcm, -⟩ := id hl3
    obtain ⟨a3, cap3, rfl, k1, k2, -⟩ := id hx3
    unfold maxLen at k2 hcm
    have HZ := Lib.hid hzs
    clear hzs
    cases hv : tvalid xs
    · have hy0 : zs = [] := by rw [← HZ.out, tshrink, hv]; rfl
      clear HZ
      subst hy0
      go_wp2_with fail
      refine (specTV_b hl3 hv).mono ?_
      rintro e w4 ⟨rfl, hb4⟩
      go_wp2_with fail
      refine (alive_any _).mono ?_
      rintro e w5 ⟨rfl, hb5⟩
      have hw5 : Below w.heap.size w w5 := (hw3.trans (hb4.mono hw3.size)).trans (hb5.mono (Nat.le_trans hw3.size hb4.size))
      go_wp2
      go_ret
      exact ⟨rfl, hw5⟩
    · have HZV := Lib.hid (show tvalid zs = true by rw [← HZ.out]; exact tshrink_valid hv)
      have HZT := Lib.hid (show tshrink zs = zs by rw [← HZ.out]; exact tshrink_twice hv)
      have hzl : zs.length ≤ xs.length := by rw [← HZ.out]; exact (tshrink_sub hv).length_le
      obtain ⟨g, hg⟩ : ∃ g : Int → Int, ∀ a, tfind xs a = g a := ⟨_, fun _ => rfl⟩
      have HG := Lib.hid hg
      have HGZ := Lib.hid (show ∀ a, tfind zs a = g a from fun a => by rw [← HZ.out, tfind_shrink hv, hg])
      have HOK := Lib.hid (show ∀ (i : Nat) x, xs[i]? = some x → x.w.ok = true from fun i x hx => (en_ok (tgood_ok ((tvalid_iff xs).1 hv).2 hx)).1)
      clear hg HZ
      generalize hn : xs.length = n at *
      generalize hm : zs.length = m at *
      have HN := Lib.hid hn
      have HM := Lib.hid hm
      clear hn hm
      go_wp2_with fail
      refine (specTV_b hl3 hv).mono ?_
      rintro e w4 ⟨rfl, hb4⟩
      have hz4 := hb4.size
      have hl4 := hl3.below hb4
      have hx4 := hx3.below hb4
      have hw4 : Below w.heap.size w w4 := hw3.trans (hb4.mono hw3.size)
      clear hb4 hl3 hx3 hw3 hv
      go_wp2_with fail
      go_loopw [5] (fun i wr => ∃ k : Nat, k ≤ n ∧ i = .int .i64 k ∧ Below w4.heap.size w4 wr) (fun i _ => n - (intOf i).toNat)
      case atStart => exact ⟨0, by omega, rfl, Below.refl _ _⟩
      case round =>
        obtain ⟨k, hk, rfl, hbr⟩ := hrel
        have hzr := hbr.size
        have HL := Lib.hid (hl4.below hbr)
        have HX := Lib.hid (hx4.below hbr)
        by_cases hlt : k < n
        · obtain ⟨b, o, f1, f2, f3, rfl, hbl, hx, c0, c1, c2⟩ := HL.out.at (show k < xs.length by rw [HN.out]; exact hlt)
          have hok : Pf.ok ⟨f1, f2⟩ = true := HOK.out k _ hx
          obtain ⟨⟨l0, l1'⟩, ⟨b0, b1⟩, -⟩ := (pf_ok_iff _).1 hok
          simp only at l0 l1' b0 b1
          obtain ⟨hi, hhi, hi0, hi1⟩ : ∃ hi, Pf.hi ⟨f1, f2⟩ = hi ∧ 0 ≤ hi ∧ hi ≤ 131072 := by
            have p1 := pwr_pos f2
            have p2 := pwr_le l0
            exact ⟨_, rfl, by simp only [Pf.hi]; omega, by simp only [Pf.hi]; omega⟩
          have i1 : (k : Int) < (n : Int) := by omega
          have HOk := Lib.hid hok
          clear hx hok
          go_wp2_with fail
          refine (implSpan_yes HOk.out _).mono ?_
          rw [hhi]
          rintro e w5 ⟨rfl, hb5⟩
          have hz5 := hb5.size
          have HL5 := Lib.hid (HL.out.below hb5)
          have HX5 := Lib.hid (HX.out.below hb5)
          have hb5' : Below w4.heap.size w4 w5 := hbr.trans (hb5.mono hzr)
          clear hhi HL HX hb5 c0 c1 c2 hbr
          go_upto_region 13 with (fail)
          have HL6 := Lib.hid (HL5.out.below (w' := _) ((Below.refl w5.heap.size w5).alloc (Nat.le_refl _) (.cells #[.int .i64 f1, .int .i64 hi] 51)))
          have HX6 := Lib.hid (HX5.out.below (w' := _) ((Below.refl w5.heap.size w5).alloc (Nat.le_refl _) (.cells #[.int .i64 f1, .int .i64 hi] 51)))
          refine wp_region_over (by kernel_rfl) (by kernel_rfl) (fun ov => ?_); have ov0 := fun x => ov x (w5.heap.size) (by (try simp) <;> omega); clear ov; (repeat (go_big_quiet_step (first | (go_at_call 23; exact callsOver (implTF_g (HX6.out.below (over_below _ _)) HGZ.out)) | (go_at_call 23; exact callsOver (implTF_g (HL6.out.below (over_below _ _)) HG.out))))); refine wpQuiet_nil ?_; intro w6 hw9; have hb_w6 := below_over hw9; clear hw9 ov0
          have hb6 : Below w4.heap.size w4 w6 := (hb5'.alloc hb5'.size _).trans (hb_w6.mono (by simp; omega))
          clear hb_w6 hb5'
          go_wp2_with fail
          go_roundw
          case rel => exact ⟨k + 1, by omega, by go_num, hb6⟩
          case measure => simp [intOf]; omega
        · have hw5 : Below w.heap.size w wr := hw4.trans (hbr.mono hw4.size)
          clear hbr hl4 hx4 hw4 HL
          go_wp2_with fail
          refine (implTV_b HX.out HZV.out).mono ?_
          rintro e w5 ⟨rfl, hb5⟩
          have hx5 := Lib.hid (HX.out.below hb5)
          have hw6 : Below w.heap.size w w5 := hw5.trans (hb5.mono hw5.size)
          clear hb5 hw5 HX
          go_wp2_with fail
          refine (implTS_any zs _ _ hx5.out).mono ?_
          rw [HZT.out]
          rintro e w6 ⟨v6, rfl, ho6, hb6⟩
          have hw7 : Below w.heap.size w w6 := hw6.trans (hb6.mono hw6.size)
          have HX6 := Lib.hid (hx5.out.below hb6)
          have HO6 := Lib.hid (OwnEn.ens ho6)
          clear ho6 hb6 hw6 hx5
          go_wp2_with fail
          refine (sameTable_eq zs _ _ _ HO6.out HX6.out).mono ?_
          rintro e w7 ⟨rfl, hb7⟩
          have hw8 : Below w.heap.size w w7 := hw7.trans (hb7.mono hw7.size)
          clear hb7 hw7
          go_wp2
          go_ret
          exact ⟨rfl, hw8⟩
end Go.Proofs.Ytfnfpekjjmejnaa
