/- The law FnTablePut: the walk. -/
import Derived.Test.YtfnfpekjjmejnaaRdTP
import Derived.Test.YtfnfpekjjmejnaaPutF
import Derived.Test.YtfnfpekjjmejnaaTbE
import Derived.Test.YtfnfpekjjmejnaaLTF
namespace Go.Proofs.Ytfnfpekjjmejnaa
open Go.RowKit
theorem implTP_e {xs zs : List En} {r : Bool} {v : Value} {p1 p2 p3 : Int} {w : World} (hs : Ens w v xs) (h1 : (tput xs ⟨⟨p1, p2⟩, p3⟩).1 = zs) (h2 : (tput xs ⟨⟨p1, p2⟩, p3⟩).2 = r) :
    Calls Try.prog 39 #[v, .agg #[.int .i64 p1, .int .i64 p2, .int .i64 p3]] w (RetEnB zs r w) := by
  subst h1 h2
  exact implTP_any xs v p1 p2 p3 w hs
theorem specTP_e {xs zs : List En} {r : Bool} {v : Value} {p1 p2 p3 : Int} {w : World} (hs : Ens w v xs) (h1 : (tput xs ⟨⟨p1, p2⟩, p3⟩).1 = zs) (h2 : (tput xs ⟨⟨p1, p2⟩, p3⟩).2 = r) :
    Calls Try.prog 37 #[v, .agg #[.int .i64 p1, .int .i64 p2, .int .i64 p3]] w (RetEnB zs r w) := by
  subst h1 h2
  exact specTP_any xs v p1 p2 p3 w hs
theorem implTD_e {xs zs : List En} {v : Value} {p1 p2 : Int} {w : World} (hs : Ens w v xs) (h1 : tdrop xs ⟨p1, p2⟩ = zs) :
    Calls Try.prog 26 #[v, .agg #[.int .i64 p1, .int .i64 p2]] w (RetEnB zs (tdropB xs ⟨p1, p2⟩) w) := by
  subst h1
  exact implTD_any xs v p1 p2 w hs
set_option maxRecDepth 100000 in
set_option maxHeartbeats 4000000 in
theorem law_FnTablePut (bs : List Int) (v : Value) (w : World) (h : CodeAt w v bs) :
    Calls Try.prog 13 #[v] w fun e w' => e = .returned (.bool true) ∧ Below w.heap.size w w' := by
  have h' := h
  obtain ⟨a, cap, rfl, l1, l2, hx⟩ := code_cells h'
  clear hx h'
  unfold maxLen at l2
  by_cases hl : 1048576 < bs.length
  · go_enter Try.func13, Try.ntmps13
    go_wp2
    go_ret
    exact ⟨rfl, by (repeat' (first | with_reducible exact Below.refl _ _ | with_reducible assumption | with_reducible refine Below.setCell ?_ ?_ _ | with_reducible refine Below.alloc ?_ ?_ _ | with_reducible refine Below.drew ?_ | with_reducible refine belDrewN ?_ _ | with_reducible refine Below.trans ?_ (Below.mono (by assumption) ?_) | omega | (simp; omega) | (simp; done)))⟩
  · go_enter Try.func13, Try.ntmps13
    go_wp2_with fail
    refine (drawTP_any _ _ _ h).mono ?_
    rintro e w0 ⟨v0, xs, p1, p2, p3, rfl, ho, hlen, hb0⟩
    have hz0 := hb0.size
    have hs0 := OwnEn.ens ho
    have hal : Below w0.heap.size w0 (w0.alloc (.cells #[.int .i64 p1, .int .i64 p2, .int .i64 p3] 35)) := (Below.refl _ _).alloc (Nat.le_refl _) _
    obtain ⟨W0, hW⟩ : ∃ W0, w0.alloc (.cells #[.int .i64 p1, .int .i64 p2, .int .i64 p3] 35) = W0 := ⟨_, rfl⟩
    have q0 : W0.cell? ⟨w0.heap.size, 0, none⟩ = some (.int .i64 p1) := by rw [← hW]; simp
    have q1 : W0.cell? ⟨w0.heap.size, 1, none⟩ = some (.int .i64 p2) := by rw [← hW]; simp
    have q2 : W0.cell? ⟨w0.heap.size, 2, none⟩ = some (.int .i64 p3) := by rw [← hW]; simp
    have qs : w0.heap.size < W0.heap.size := by rw [← hW]; simp
    rw [hW] at hal
    have hs := hs0.below hal
    have hw0 : Below w.heap.size w W0 := hb0.trans (hal.mono hz0)
    clear ho h hs0 hal hb0
    obtain ⟨zs, hzs⟩ : ∃ zs, (tput xs ⟨⟨p1, p2⟩, p3⟩).1 = zs := ⟨_, rfl⟩
    obtain ⟨r, hr⟩ : ∃ r, (tput xs ⟨⟨p1, p2⟩, p3⟩).2 = r := ⟨_, rfl⟩
    go_wp2_with fail
    refine (implTP_e hs hzs hr).mono ?_
    rintro e w1 ⟨v1, rfl, ho1, hb1⟩
    have hz1 := hb1.size
    have q0_1 := (hb1.cell (p := ⟨w0.heap.size, 0, none⟩) qs).trans q0
    have q1_1 := (hb1.cell (p := ⟨w0.heap.size, 1, none⟩) qs).trans q1
    have q2_1 := (hb1.cell (p := ⟨w0.heap.size, 2, none⟩) qs).trans q2
    have hs1 : Ens w1 v1 zs := OwnEn.ens ho1
    clear ho1
    go_wp2_with fail
    refine (specTP_e (hs.below hb1) hzs hr).mono ?_
    rintro e w2 ⟨v2, rfl, ho2, hb2⟩
    have hz2 := hb2.size
    have hs2 := OwnEn.ens ho2
    clear ho2
    go_wp2_with fail
    refine (sameTable_eq zs _ _ _ (hs1.below hb2) hs2).mono ?_
    rintro e w3 ⟨rfl, hb3⟩
    have hq3 : Below W0.heap.size W0 w3 := (hb1.trans (hb2.mono hz1)).trans (hb3.mono (by omega))
    have hx3 : Ens w3 v1 zs := (hs1.below hb2).below hb3
    have hl3 := hs.below hq3
    have hw3 : Below w.heap.size w w3 := hw0.trans (hq3.mono hw0.size)
    have q0_3 := (hq3.cell (p := ⟨w0.heap.size, 0, none⟩) qs).trans q0
    have q1_3 := (hq3.cell (p := ⟨w0.heap.size, 1, none⟩) qs).trans q1
    have q2_3 := (hq3.cell (p := ⟨w0.heap.size, 2, none⟩) qs).trans q2
    have qs3 : w0.heap.size < w3.heap.size := Nat.lt_of_lt_of_le qs hq3.size
    clear hs hs1 hs2 hb1 hb2 hb3 hq3 q0 q1 q2 q0_1 q1_1 q2_1
    obtain ⟨sa, cap0, rfl, hlc, hcm, -⟩ := id hl3
    obtain ⟨a3, cap3, rfl, k1, k2, -⟩ := id hx3
    unfold maxLen at k2 hcm
    cases r
    · have hno := tput_no hr
      rw [hzs] at hno
      clear hzs hr q0_3 q1_3 q2_3
      by_cases hz : zs = []
      · subst hz
        go_wp2_with fail
        refine (alive_any _).mono ?_
        rintro e w5 ⟨rfl, hb5⟩
        have hw5 : Below w.heap.size w w5 := hw3.trans (hb5.mono hw3.size)
        go_wp2
        go_ret
        exact ⟨rfl, hw5⟩
      · have hzx : zs = xs := hno.resolve_left hz
        subst hzx
        have hn0 : ((zs.length : Int) == 0) = false := by
          have := List.length_pos_iff.2 hz
          simpa using (by omega : (zs.length : Int) ≠ 0)
        clear hno hz
        go_wp2_with fail
        refine (sameTable_eq zs _ _ _ hx3 hl3).mono ?_
        rintro e w4 ⟨rfl, hb4⟩
        have hw4 : Below w.heap.size w w4 := hw3.trans (hb4.mono hw3.size)
        go_wp2_with fail
        refine (alive_any _).mono ?_
        rintro e w5 ⟨rfl, hb5⟩
        have hw5 : Below w.heap.size w w5 := hw4.trans (hb5.mono hw4.size)
        go_wp2
        go_ret
        exact ⟨rfl, hw5⟩
    · obtain ⟨hv, he, hzp, hl30⟩ := tput_yes hr
      rw [hzs] at hzp
      obtain ⟨r2, hr2⟩ : ∃ r2, (tput zs ⟨⟨p1, p2⟩, p3⟩).2 = r2 := ⟨_, rfl⟩
      have HR2 := Lib.hid hr2
      have HV := Lib.hid (show tvalid zs = true by rw [hzp]; exact putL_valid hv he hl30)
      have HAG := Lib.hid (show (tput zs ⟨⟨p1, p2⟩, p3⟩).1 = zs by rw [hzp]; exact putL_again hv he hl30)
      have HDR := Lib.hid (show tdrop zs ⟨p1, p2⟩ = tdrop xs ⟨p1, p2⟩ by rw [hzp]; exact putL_drop (e := ⟨⟨p1, p2⟩, p3⟩) hv he hl30)
      have HFD := Lib.hid (show lng zs ⟨p1, p2⟩ zs.length = false → tfind zs p1 = p3 by intro hh; rw [hzp] at hh ⊢; exact put_find (e := ⟨⟨p1, p2⟩, p3⟩) hv he hl30 hh)
      obtain ⟨ds, hds⟩ : ∃ ds, tdrop xs ⟨p1, p2⟩ = ds := ⟨_, rfl⟩
      rw [hds] at HDR
      have HDS := Lib.hid hds
      clear hzs hr hv he hzp hl30 hr2 hds
      generalize hm : zs.length = m at *
      have HM := Lib.hid hm
      clear hm
      go_wp2_with fail
      go_loopw [9, 10] (fun b i wr => ∃ k : Nat, k ≤ m ∧ i = .int .i64 k ∧ b = .bool (lng zs ⟨p1, p2⟩ k) ∧ Below w3.heap.size w3 wr) (fun _ i _ => m - (intOf i).toNat)
      case atStart => exact ⟨0, by omega, rfl, by rw [lng_zero], Below.refl _ _⟩
      case round =>
        obtain ⟨k, hk, rfl, rfl, hbr⟩ := hrel
        have hzr := hbr.size
        have e0 := (hbr.cell (p := ⟨w0.heap.size, 0, none⟩) qs3).trans q0_3
        have e1 := (hbr.cell (p := ⟨w0.heap.size, 1, none⟩) qs3).trans q1_3
        have e2 := (hbr.cell (p := ⟨w0.heap.size, 2, none⟩) qs3).trans q2_3
        have qsr : w0.heap.size < wr.heap.size := Nat.lt_of_lt_of_le qs3 hzr
        by_cases hlt : k < m
        · have hx4 := hx3.below hbr
          obtain ⟨b, o, f1, f2, f3, rfl, hbl, hx, c0, c1, c2⟩ := hx4.at (show k < zs.length by rw [HM.out]; exact hlt)
          have HLS := Lib.hid (lng_succ (p := ⟨p1, p2⟩) hx)
          clear hx hx4
          have i1 : (k : Int) < (m : Int) := by omega
          have hgx : ¬ p2 < f2 → decide (p2 < f2) = false := fun h => decide_eq_false h
          have HGX := Lib.hid hgx
          clear hgx
          generalize lng zs ⟨p1, p2⟩ k = bb at *
          cases bb
          · by_cases g1 : p2 < f2
            · by_cases g2 : f1 = p1
              · have hL : lng zs ⟨p1, p2⟩ (k + 1) = true := by rw [HLS.out]; simp [g1, g2]
                have HL := Lib.hid hL
                clear hL HLS
                go_wp2_with fail
                refine wp_region_over (by kernel_rfl) (by kernel_rfl) (fun ov => ?_); have ov0 := fun x => ov x (b) (by (try simp) <;> omega); have ov1 := fun x => ov x (w0.heap.size) (by (try simp) <;> omega); clear ov; (repeat (go_big_quiet_step (first | fail))); refine wpQuiet_nil ?_; intro w9 hw9; have hb_w9 := below_over hw9; clear hw9 ov0 ov1
                have hb9 : Below w3.heap.size w3 w9 := hbr.trans (hb_w9.mono hzr)
                clear hb_w9
                go_wp2_with fail
                go_roundw
                case rel => exact ⟨k + 1, by omega, by go_num, by rw [HL.out], hb9⟩
                case measure => simp [intOf]; omega
              · have hL : lng zs ⟨p1, p2⟩ (k + 1) = false := by rw [HLS.out]; simp [g2]
                have HL := Lib.hid hL
                have g2' : (f1 == p1) = false := by simpa using g2
                clear hL HLS
                go_wp2_with fail
                refine wp_region_over (by kernel_rfl) (by kernel_rfl) (fun ov => ?_); have ov0 := fun x => ov x (b) (by (try simp) <;> omega); have ov1 := fun x => ov x (w0.heap.size) (by (try simp) <;> omega); clear ov; (repeat (go_big_quiet_step (first | fail))); refine wpQuiet_nil ?_; intro w9 hw9; have hb_w9 := below_over hw9; clear hw9 ov0 ov1
                have hb9 : Below w3.heap.size w3 w9 := hbr.trans (hb_w9.mono hzr)
                clear hb_w9
                go_wp2_with fail
                go_roundw
                case rel => exact ⟨k + 1, by omega, by go_num, by rw [HL.out], hb9⟩
                case measure => simp [intOf]; omega
            · have hL : lng zs ⟨p1, p2⟩ (k + 1) = false := by rw [HLS.out]; simp [g1]
              have g1' := HGX.out g1
              have g1'' : f2 ≤ p2 := by omega
              clear g1
              have HL := Lib.hid hL
              clear hL HLS
              go_wp2_with fail
              refine wp_region_over (by kernel_rfl) (by kernel_rfl) (fun ov => ?_); have ov0 := fun x => ov x (b) (by (try simp) <;> omega); have ov1 := fun x => ov x (w0.heap.size) (by (try simp) <;> omega); clear ov; (repeat (go_big_quiet_step (first | fail))); refine wpQuiet_nil ?_; intro w9 hw9; have hb_w9 := below_over hw9; clear hw9 ov0 ov1
              have hb9 : Below w3.heap.size w3 w9 := hbr.trans (hb_w9.mono hzr)
              clear hb_w9
              go_wp2_with fail
              go_roundw
              case rel => exact ⟨k + 1, by omega, by go_num, by rw [HL.out], hb9⟩
              case measure => simp [intOf]; omega
          · have hL : lng zs ⟨p1, p2⟩ (k + 1) = true := by rw [HLS.out]; simp
            have HL := Lib.hid hL
            clear hL HLS
            go_wp2_with fail
            refine wp_region_over (by kernel_rfl) (by kernel_rfl) (fun ov => ?_); have ov0 := fun x => ov x (b) (by (try simp) <;> omega); have ov1 := fun x => ov x (w0.heap.size) (by (try simp) <;> omega); clear ov; (repeat (go_big_quiet_step (first | fail))); refine wpQuiet_nil ?_; intro w9 hw9; have hb_w9 := below_over hw9; clear hw9 ov0 ov1
            have hb9 : Below w3.heap.size w3 w9 := hbr.trans (hb_w9.mono hzr)
            clear hb_w9
            go_wp2_with fail
            go_roundw
            case rel => exact ⟨k + 1, by omega, by go_num, by rw [HL.out], hb9⟩
            case measure => simp [intOf]; omega
        · obtain rfl : k = m := by omega
          have hxr := hx3.below hbr
          have hlr := hl3.below hbr
          have hwr : Below w.heap.size w wr := hw3.trans (hbr.mono hw3.size)
          clear hx3 hl3 q0_3 q1_3 q2_3 hw3 hbr
          obtain ⟨lb, hlb⟩ : ∃ lb, lng zs ⟨p1, p2⟩ k = lb := ⟨_, rfl⟩
          rw [hlb] at HFD ⊢
          clear hlb
          go_wp2_with fail
          refine (implTP_e hxr HAG.out HR2.out).mono ?_
          rintro e w4 ⟨v4, rfl, ho4, hb4⟩
          have hw4 : Below w.heap.size w w4 := hwr.trans (hb4.mono hwr.size)
          have hx4 := hxr.below hb4
          have hl4 := hlr.below hb4
          have HA4 := Lib.hid (OwnEn.ens ho4)
          have d0 := (hb4.cell (p := ⟨w0.heap.size, 0, none⟩) qsr).trans e0
          have d1 := (hb4.cell (p := ⟨w0.heap.size, 1, none⟩) qsr).trans e1
          have d2 := (hb4.cell (p := ⟨w0.heap.size, 2, none⟩) qsr).trans e2
          have qs4 : w0.heap.size < w4.heap.size := Nat.lt_of_lt_of_le qsr hb4.size
          clear hxr hlr ho4 hb4 hwr e0 e1 e2
          go_wp2_with fail
          refine (implTD_e hx4 HDR.out).mono ?_
          rintro e w5 ⟨v5, rfl, ho5, hb5⟩
          have hw5 : Below w.heap.size w w5 := hw4.trans (hb5.mono hw4.size)
          have hx5 := hx4.below hb5
          have hl5 := hl4.below hb5
          have HA5 := Lib.hid (HA4.out.below hb5)
          have HD5 := Lib.hid (OwnEn.ens ho5)
          have e0 := (hb5.cell (p := ⟨w0.heap.size, 0, none⟩) qs4).trans d0
          have e1 := (hb5.cell (p := ⟨w0.heap.size, 1, none⟩) qs4).trans d1
          have e2 := (hb5.cell (p := ⟨w0.heap.size, 2, none⟩) qs4).trans d2
          have qs5 : w0.heap.size < w5.heap.size := Nat.lt_of_lt_of_le qs4 hb5.size
          clear hx4 hl4 ho5 hb5 hw4 d0 d1 d2 HA4
          go_wp2_with fail
          refine (implTD_e hl5 HDS.out).mono ?_
          rintro e w6 ⟨v6, rfl, ho6, hb6⟩
          have hw6 : Below w.heap.size w w6 := hw5.trans (hb6.mono hw5.size)
          have hx6 := hx5.below hb6
          have HA6 := Lib.hid (HA5.out.below hb6)
          have HD6 := Lib.hid (HD5.out.below hb6)
          have HE6 := Lib.hid (OwnEn.ens ho6)
          have d0 := (hb6.cell (p := ⟨w0.heap.size, 0, none⟩) qs5).trans e0
          have d1 := (hb6.cell (p := ⟨w0.heap.size, 1, none⟩) qs5).trans e1
          have d2 := (hb6.cell (p := ⟨w0.heap.size, 2, none⟩) qs5).trans e2
          have qs6 : w0.heap.size < w6.heap.size := Nat.lt_of_lt_of_le qs5 hb6.size
          clear hx5 hl5 ho6 hb6 hw5 e0 e1 e2 HA5 HD5
          have HX6 := Lib.hid hx6
          clear hx6
          cases lb
          · have HF2 := Lib.hid (HFD.out rfl)
            clear HFD
            go_wp2_with fail
            refine wp_region_over (by kernel_rfl) (by kernel_rfl) (fun ov => ?_); have ov0 := fun x => ov x (w0.heap.size) (by (try simp) <;> omega); clear ov; (repeat (go_big_quiet_step (first | (go_at_call 18; exact callsOver (implTV_b (HX6.out.below (over_below _ _)) HV.out)) | (go_at_call 32; exact callsOver (sameTable_eq zs _ _ _ (HA6.out.below (over_below _ _)) (HX6.out.below (over_below _ _)))) | (go_at_call 32; exact callsOver (sameTable_eq ds _ _ _ (HD6.out.below (over_below _ _)) (HE6.out.below (over_below _ _)))) | (go_at_call 23; exact callsOver (implTF_b (HX6.out.below (over_below _ _)) HF2.out))))); refine wpQuiet_nil ?_; intro wz hw9; have hb_wz := below_over hw9; clear hw9 ov0
            have hwz : Below w.heap.size w wz := hw6.trans (hb_wz.mono hw6.size)
            clear hb_wz
            go_wp2
            go_ret
            exact ⟨rfl, hwz⟩
          · go_wp2_with fail
            refine wp_region_over (by kernel_rfl) (by kernel_rfl) (fun ov => ?_); have ov0 := fun x => ov x (w0.heap.size) (by (try simp) <;> omega); clear ov; (repeat (go_big_quiet_step (first | (go_at_call 18; exact callsOver (implTV_b (HX6.out.below (over_below _ _)) HV.out)) | (go_at_call 32; exact callsOver (sameTable_eq zs _ _ _ (HA6.out.below (over_below _ _)) (HX6.out.below (over_below _ _)))) | (go_at_call 32; exact callsOver (sameTable_eq ds _ _ _ (HD6.out.below (over_below _ _)) (HE6.out.below (over_below _ _))))))); refine wpQuiet_nil ?_; intro wz hw9; have hb_wz := below_over hw9; clear hw9 ov0
            have hwz : Below w.heap.size w wz := hw6.trans (hb_wz.mono hw6.size)
            clear hb_wz
            go_wp2
            go_ret
            exact ⟨rfl, hwz⟩
end Go.Proofs.Ytfnfpekjjmejnaa
