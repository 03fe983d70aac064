/- The law FnTableEqual: the walk. -/
import Derived.Test.YtfnfpekjjmejnaaRdTP
import Derived.Test.YtfnfpekjjmejnaaPutE
import Derived.Test.YtfnfpekjjmejnaaTbE
import Derived.Test.YtfnfpekjjmejnaaLTF
namespace Go.Proofs.Ytfnfpekjjmejnaa
open Go.RowKit
theorem implTP_q {xs zs : List En} {r : Bool} {v : Value} {p1 p2 p3 : Int} {w : World} (hs : Ens w v xs) (h1 : (tput xs ⟨⟨p1, p2⟩, p3⟩).1 = zs) (h2 : (tput xs ⟨⟨p1, p2⟩, p3⟩).2 = r) :
    Calls Try.prog 39 #[v, .agg #[.int .i64 p1, .int .i64 p2, .int .i64 p3]] w (RetEnB zs r w) := by
  subst h1 h2
  exact implTP_any xs v p1 p2 p3 w hs
theorem implTS_e {xs zs : List En} {v : Value} {w : World} (hs : Ens w v xs) (h1 : tshrink xs = zs) : Calls Try.prog 30 #[v] w (RetEn zs w) := by
  subst h1
  exact implTS_any xs v w hs
theorem specTS_e {xs zs : List En} {v : Value} {w : World} (hs : Ens w v xs) (h1 : tshrink xs = zs) : Calls Try.prog 29 #[v] w (RetEn zs w) := by
  subst h1
  exact specTS_any xs v w hs
/-- Among the first k entries there is one within the prefix. -/
def inn (xs : List En) (p : Pf) (k : Nat) : Bool := (xs.take k).any fun z => Pf.within z.w p
theorem inn_zero (xs : List En) (p : Pf) : inn xs p 0 = false := by simp [inn]
theorem inn_succ {xs : List En} {p : Pf} {k : Nat} {x : En} (hx : xs[k]? = some x) : inn xs p (k + 1) = (inn xs p k || Pf.within x.w p) := by
  unfold inn
  rw [List.take_add_one, hx, List.any_append]
  simp
theorem part_pos {m k c : Nat} (hk : k ≤ 16) (hm : m ≤ 65535) (h0 : m % 2 ^ (16 - k) = 0) : m + c % 2 ^ (16 - k) ≤ 65535 ∧ pth (m + c % 2 ^ (16 - k)) k = pth m k := by
  have hD : 0 < 2 ^ (16 - k) := Nat.pow_pos (by omega)
  have hr := Nat.mod_lt c hD
  have h16 : 65536 % 2 ^ (16 - k) = 0 := Nat.mod_eq_zero_of_dvd (show 2 ^ (16 - k) ∣ 2 ^ 16 from Nat.pow_dvd_pow 2 (by omega))
  have := mul_lt_next hD h0 h16 (by omega)
  refine ⟨by omega, ?_⟩
  simp only [pth, Prod.mk.injEq, true_and]
  have hq := mul_div_eq h0
  rw [← hq, Nat.mul_add_div hD, Nat.div_eq_of_lt hr, Nat.mul_div_cancel_left _ hD, Nat.add_zero]
set_option maxRecDepth 100000 in
set_option maxHeartbeats 4000000 in
theorem law_FnTableEqual (bs ms : List Int) (v u : Value) (w : World) (h : CodeAt w v bs) (g : CodeAt w u ms) :
    Calls Try.prog 14 #[v, u] w fun e w' => e = .returned (.bool true) ∧ Below w.heap.size w w' := by
  have h' := h
  have g' := g
  obtain ⟨a, cap, rfl, l1, l2, hx⟩ := code_cells h'
  obtain ⟨b, cap', rfl, l1', l2', hx'⟩ := code_cells g'
  clear hx h' hx' g' g
  unfold maxLen at l2 l2'
  by_cases hl : 1048576 < bs.length
  · go_enter Try.func14, Try.ntmps14
    go_wp2
    go_ret
    exact ⟨rfl, by (repeat' (first | with_reducible exact Below.refl _ _ | with_reducible assumption | with_reducible refine Below.setCell ?_ ?_ _ | with_reducible refine Below.alloc ?_ ?_ _ | with_reducible refine Below.drew ?_ | with_reducible refine belDrewN ?_ _ | with_reducible refine Below.trans ?_ (Below.mono (by assumption) ?_) | omega | (simp; omega) | (simp; done)))⟩
  · by_cases hl' : 1048576 < ms.length
    · go_enter Try.func14, Try.ntmps14
      go_wp2
      go_ret
      exact ⟨rfl, by (repeat' (first | with_reducible exact Below.refl _ _ | with_reducible assumption | with_reducible refine Below.setCell ?_ ?_ _ | with_reducible refine Below.alloc ?_ ?_ _ | with_reducible refine Below.drew ?_ | with_reducible refine belDrewN ?_ _ | with_reducible refine Below.trans ?_ (Below.mono (by assumption) ?_) | omega | (simp; omega) | (simp; done)))⟩
    · go_enter Try.func14, Try.ntmps14
      go_wp2_with fail
      refine (drawTP_any _ _ _ h).mono ?_
      rintro e w0 ⟨v0, xs, p1, p2, p3, rfl, ho, hlen, hb0⟩
      have hz0 := hb0.size
      have hs0 := OwnEn.ens ho
      have hal : Below w0.heap.size w0 (w0.alloc (.cells #[.int .i64 p1, .int .i64 p2, .int .i64 p3] 35)) := (Below.refl _ _).alloc (Nat.le_refl _) _
      obtain ⟨W0, hW⟩ : ∃ W0, w0.alloc (.cells #[.int .i64 p1, .int .i64 p2, .int .i64 p3] 35) = W0 := ⟨_, rfl⟩
      have q0 : W0.cell? ⟨w0.heap.size, 0, none⟩ = some (.int .i64 p1) := by rw [← hW]; simp
      have q1 : W0.cell? ⟨w0.heap.size, 1, none⟩ = some (.int .i64 p2) := by rw [← hW]; simp
      have q2 : W0.cell? ⟨w0.heap.size, 2, none⟩ = some (.int .i64 p3) := by rw [← hW]; simp
      have qs : w0.heap.size < W0.heap.size := by rw [← hW]; simp
      rw [hW] at hal
      have hs := hs0.below hal
      have hw0 : Below w.heap.size w W0 := hb0.trans (hal.mono hz0)
      clear ho h hs0 hal hb0
      obtain ⟨sa, cap0, rfl, hlc, hcm, -⟩ := id hs
      unfold maxLen at hcm
      by_cases hgood : tvalid xs = true ∧ Pf.ok ⟨p1, p2⟩ = true
      · obtain ⟨hv, hp⟩ := hgood
        obtain ⟨m, k, hmk, hk, hm, h0⟩ := pf_nat' hp
        obtain ⟨rfl, rfl⟩ := Pf.mk.inj hmk
        obtain ⟨f, hf⟩ : ∃ f, tfind xs (m : Int) = f := ⟨_, rfl⟩
        have HP := Lib.hid hp
        have HV := Lib.hid hv
        clear hmk hp
        go_wp2_with fail
        refine (specTV_b hs hv).mono ?_
        rintro e w1 ⟨rfl, hb1⟩
        have hs1 := hs.below hb1
        have hw1 : Below w.heap.size w w1 := hw0.trans (hb1.mono hw0.size)
        have e0 := (hb1.cell (p := ⟨w0.heap.size, 0, none⟩) qs).trans q0
        have e1 := (hb1.cell (p := ⟨w0.heap.size, 1, none⟩) qs).trans q1
        have qs1 : w0.heap.size < w1.heap.size := Nat.lt_of_lt_of_le qs hb1.size
        clear hb1 hs hv q0 q1 q2
        go_wp2_with fail
        refine (specPf_b HP.out _).mono ?_
        rintro e w2 ⟨rfl, hb2⟩
        have hs2 := hs1.below hb2
        have hw2 : Below w.heap.size w w2 := hw1.trans (hb2.mono hw1.size)
        have q0 := (hb2.cell (p := ⟨w0.heap.size, 0, none⟩) qs1).trans e0
        have q1 := (hb2.cell (p := ⟨w0.heap.size, 1, none⟩) qs1).trans e1
        have qs2 : w0.heap.size < w2.heap.size := Nat.lt_of_lt_of_le qs1 hb2.size
        clear hb2 hs1 e0 e1
        go_wp2_with fail
        refine (implTF_b hs2 hf).mono ?_
        rintro e w3 ⟨rfl, hb3⟩
        have hs3 := hs2.below hb3
        have hw3 : Below w.heap.size w w3 := hw2.trans (hb3.mono hw2.size)
        have e0 := (hb3.cell (p := ⟨w0.heap.size, 0, none⟩) qs2).trans q0
        have e1 := (hb3.cell (p := ⟨w0.heap.size, 1, none⟩) qs2).trans q1
        have qs3 : w0.heap.size < w3.heap.size := Nat.lt_of_lt_of_le qs2 hb3.size
        clear hb3 hs2 q0 q1
        go_wp2_with fail
        refine (specTF_b hs3 hf).mono ?_
        rintro e w4 ⟨rfl, hb4⟩
        have hs4 := hs3.below hb4
        have hw4 : Below w.heap.size w w4 := hw3.trans (hb4.mono hw3.size)
        have q0 := (hb4.cell (p := ⟨w0.heap.size, 0, none⟩) qs3).trans e0
        have q1 := (hb4.cell (p := ⟨w0.heap.size, 1, none⟩) qs3).trans e1
        have qs4 : w0.heap.size < w4.heap.size := Nat.lt_of_lt_of_le qs3 hb4.size
        have HF := Lib.hid hf
        clear hb4 hs3 e0 e1 hf
        generalize hn : xs.length = n at *
        have HN := Lib.hid hn
        clear hn
        go_wp2_with fail
        go_loopw [8, 9] (fun bx i wr => ∃ j : Nat, j ≤ n ∧ i = .int .i64 j ∧ bx = .bool (inn xs ⟨(m : Int), (k : Int)⟩ j) ∧ Below w4.heap.size w4 wr) (fun _ i _ => n - (intOf i).toNat)
        case atStart => exact ⟨0, by omega, rfl, by rw [inn_zero], Below.refl _ _⟩
        case round =>
          obtain ⟨j, hj, rfl, rfl, hbr⟩ := hrel
          have hzr := hbr.size
          have e0 := (hbr.cell (p := ⟨w0.heap.size, 0, none⟩) qs4).trans q0
          have e1 := (hbr.cell (p := ⟨w0.heap.size, 1, none⟩) qs4).trans q1
          have qsr : w0.heap.size < wr.heap.size := Nat.lt_of_lt_of_le qs4 hzr
          by_cases hlt : j < n
          · have hx4 := hs4.below hbr
            obtain ⟨b', o, f1, f2, f3, rfl, hbl, hx, c0, c1, c2⟩ := hx4.at (show j < xs.length by rw [HN.out]; exact hlt)
            have HLS := Lib.hid (inn_succ (p := ⟨(m : Int), (k : Int)⟩) hx)
            clear hx hx4 c2
            have i1 : (j : Int) < (n : Int) := by omega
            obtain ⟨wi, hwi⟩ : ∃ wi, Pf.within ⟨f1, f2⟩ ⟨(m : Int), (k : Int)⟩ = wi := ⟨_, rfl⟩
            generalize inn xs ⟨(m : Int), (k : Int)⟩ j = bb at *
            have HL := Lib.hid (show inn xs ⟨(m : Int), (k : Int)⟩ (j + 1) = (bb || wi) by rw [HLS.out]; simp only; rw [hwi])
            clear HLS
            cases bb
            · go_wp2_with fail
              refine wp_region_over (by kernel_rfl) (by kernel_rfl) (fun ov => ?_); have ov0 := fun x => ov x (b') (by (try simp) <;> omega); have ov1 := fun x => ov x (w0.heap.size) (by (try simp) <;> omega); clear ov; (repeat (go_big_quiet_step (first | (go_at_call 34; exact callsOver (implWithin_b hwi _))))); refine wpQuiet_nil ?_; intro w9 hw9; have hb_w9 := below_over hw9; clear hw9 ov0 ov1
              have hb9 : Below w4.heap.size w4 w9 := hbr.trans (hb_w9.mono hzr)
              clear hb_w9
              go_wp2_with fail
              go_roundw
              case rel => exact ⟨j + 1, by omega, by go_num, by rw [HL.out]; simp, hb9⟩
              case measure => simp [intOf]; omega
            · go_wp2_with fail
              refine wp_region_over (by kernel_rfl) (by kernel_rfl) (fun ov => ?_); have ov0 := fun x => ov x (b') (by (try simp) <;> omega); have ov1 := fun x => ov x (w0.heap.size) (by (try simp) <;> omega); clear ov; (repeat (go_big_quiet_step (first | fail))); refine wpQuiet_nil ?_; intro w9 hw9; have hb_w9 := below_over hw9; clear hw9 ov0 ov1
              have hb9 : Below w4.heap.size w4 w9 := hbr.trans (hb_w9.mono hzr)
              clear hb_w9
              go_wp2_with fail
              go_roundw
              case rel => exact ⟨j + 1, by omega, by go_num, by rw [HL.out]; simp, hb9⟩
              case measure => simp [intOf]; omega
          · obtain rfl : j = n := by omega
            have hsr := hs4.below hbr
            have hwr : Below w.heap.size w wr := hw4.trans (hbr.mono hw4.size)
            clear hs4 q0 q1 hw4 hbr
            obtain ⟨lb, hlb⟩ : ∃ lb, inn xs ⟨(m : Int), (k : Int)⟩ j = lb := ⟨_, rfl⟩
            rw [hlb]
            have HI := Lib.hid hlb
            clear hlb
            by_cases hf0 : f < 0
            · go_wp2_with fail
              refine (alive_any _).mono ?_
              rintro e w5 ⟨rfl, hb5⟩
              have hw5 : Below w.heap.size w w5 := hwr.trans (hb5.mono hwr.size)
              go_wp2
              go_ret
              exact ⟨rfl, hw5⟩
            · cases lb
              · have hf1 : 0 ≤ f := by omega
                have HIN := Lib.hid (show ∀ z ∈ xs, Pf.within z.w ⟨(m : Int), (k : Int)⟩ = false by
                  intro z hz
                  have := HI.out
                  unfold inn at this
                  rw [← HN.out, List.take_length, List.any_eq_false] at this
                  simpa using this z hz)
                obtain ⟨zs, hzs⟩ : ∃ zs, (tput xs ⟨⟨(m : Int), (k : Int)⟩, f⟩).1 = zs := ⟨_, rfl⟩
                obtain ⟨r, hr⟩ : ∃ r, (tput xs ⟨⟨(m : Int), (k : Int)⟩, f⟩).2 = r := ⟨_, rfl⟩
                have HZS := Lib.hid hzs
                have HR := Lib.hid hr
                clear hzs hr HI
                go_wp2_with fail
                refine (implTP_q hsr HZS.out HR.out).mono ?_
                rintro e w5 ⟨v5, rfl, ho5, hb5⟩
                have hw5 : Below w.heap.size w w5 := hwr.trans (hb5.mono hwr.size)
                have hs5 := hsr.below hb5
                have HX5 := Lib.hid (OwnEn.ens ho5)
                have q0 := (hb5.cell (p := ⟨w0.heap.size, 0, none⟩) qsr).trans e0
                have q1 := (hb5.cell (p := ⟨w0.heap.size, 1, none⟩) qsr).trans e1
                have qs5 : w0.heap.size < w5.heap.size := Nat.lt_of_lt_of_le qsr hb5.size
                clear ho5 hb5 hsr hwr e0 e1
                obtain ⟨t1, t2⟩ := two_le (16 - k) (by omega)
                go_wp2_with fail
                refine wp_region_over (by kernel_rfl) (by kernel_rfl) (fun ov => ?_); have ov0 := fun x => ov x (w0.heap.size) (by (try simp) <;> omega); clear ov; (repeat (go_big_quiet_step (first | fail))); refine wpQuiet_nil ?_; intro w6 hw9; have hb_w6 := below_over hw9; clear hw9 ov0
                have hw6 : Below w.heap.size w w6 := hw5.trans (hb_w6.mono hw5.size)
                have HS6 := Lib.hid (hs5.below hb_w6)
                have HX6 := Lib.hid (HX5.out.below hb_w6)
                clear hs5 HX5 hb_w6 hw5 q0 q1
                cases r
                · go_wp2_with fail
                  go_ret
                  exact ⟨rfl, hw6⟩
                · obtain ⟨hv, he, hzp, hl30⟩ := tput_yes HR.out
                  rw [HZS.out] at hzp
                  obtain ⟨-, -, hf99⟩ := en_ok he
                  simp only at hf99
                  obtain ⟨hA1, hA2⟩ := part_pos (m := m) (k := k) (c := ms.length) hk hm h0
                  obtain ⟨A, hA⟩ : ∃ A, m + ms.length % 2 ^ (16 - k) = A := ⟨_, rfl⟩
                  have hAI : (m : Int) + (ms.length : Int) % 2 ^ (16 - k) = (A : Int) := by rw [← hA]; push_cast; rfl
                  rw [hA] at hA1 hA2
                  have hb17 : best (valsOf xs) m 17 = f := by rw [← tfind_best hv hm]; exact HF.out
                  have hbk : best (valsOf xs) m k = f := by rw [← equal_low hv hk hm h0 HIN.out (A := m) rfl]; exact hb17
                  have HFL := Lib.hid (show tfind xs (A : Int) = f by rw [tfind_best hv hA1, equal_low hv hk hm h0 HIN.out hA2]; exact hbk)
                  have HFX := Lib.hid (show tfind zs (A : Int) = f by rw [hzp, tfind_best (putL_valid hv he hl30) hA1]; exact equal_put hv hk hm h0 HIN.out hf1 hf99 hl30 hA2)
                  obtain ⟨ys, hys⟩ : ∃ ys, tshrink xs = ys := ⟨_, rfl⟩
                  have HSL := Lib.hid hys
                  have HSX := Lib.hid (show tshrink zs = ys by rw [hzp, equal_shrink hv hk hm h0 HIN.out hf1 hf99 hl30 hbk]; exact hys)
                  rw [hAI]
                  clear hv he hzp hl30 hA hAI hb17 hbk hys hA1 hA2 t1 t2 h0 hW
                  go_wp2_with fail
                  refine (implTF_b HX6.out HFX.out).mono ?_
                  rintro e w7 ⟨rfl, hb7⟩
                  have hw7 : Below w.heap.size w w7 := hw6.trans (hb7.mono hw6.size)
                  have HS7 := Lib.hid (HS6.out.below hb7)
                  have HX7 := Lib.hid (HX6.out.below hb7)
                  clear hb7 hw6 HS6 HX6
                  go_wp2_with fail
                  refine (implTF_b HS7.out HFL.out).mono ?_
                  rintro e w8 ⟨rfl, hb8⟩
                  have hw8 : Below w.heap.size w w8 := hw7.trans (hb8.mono hw7.size)
                  have HS8 := Lib.hid (HS7.out.below hb8)
                  have HX8 := Lib.hid (HX7.out.below hb8)
                  clear hb8 hw7 HS7 HX7
                  go_wp2_with fail
                  refine (implTS_e HX8.out HSX.out).mono ?_
                  rintro e w9 ⟨v9, rfl, ho9, hb9⟩
                  have hw9 : Below w.heap.size w w9 := hw8.trans (hb9.mono hw8.size)
                  have HS9 := Lib.hid (HS8.out.below hb9)
                  have HY9 := Lib.hid (OwnEn.ens ho9)
                  clear hb9 hw8 HS8 HX8 ho9
                  go_wp2_with fail
                  refine (implTS_e HS9.out HSL.out).mono ?_
                  rintro e w10 ⟨v10, rfl, ho10, hb10⟩
                  have hw10 : Below w.heap.size w w10 := hw9.trans (hb10.mono hw9.size)
                  have HY10 := Lib.hid (HY9.out.below hb10)
                  have HZ10 := Lib.hid (OwnEn.ens ho10)
                  clear hb10 hw9 HS9 HY9 ho10
                  go_wp2_with fail
                  refine (sameTable_eq ys _ _ _ HY10.out HZ10.out).mono ?_
                  rintro e w11 ⟨rfl, hb11⟩
                  have hw11 : Below w.heap.size w w11 := hw10.trans (hb11.mono hw10.size)
                  clear hb11
                  go_wp2
                  go_ret
                  exact ⟨rfl, hw11⟩
              · go_wp2_with fail
                refine (alive_any _).mono ?_
                rintro e w5 ⟨rfl, hb5⟩
                have hw5 : Below w.heap.size w w5 := hwr.trans (hb5.mono hwr.size)
                go_wp2
                go_ret
                exact ⟨rfl, hw5⟩
      · obtain ⟨zs, hzs⟩ : ∃ zs, tshrink xs = zs := ⟨_, rfl⟩
        have HZS := Lib.hid hzs
        clear hzs
        cases hv : tvalid xs
        · go_wp2_with fail
          refine (specTV_b hs hv).mono ?_
          rintro e w1 ⟨rfl, hb1⟩
          have hs1 := hs.below hb1
          have hw1 : Below w.heap.size w w1 := hw0.trans (hb1.mono hw0.size)
          clear hb1 hs hgood hv
          go_wp2_with fail
          refine (implTS_e hs1 HZS.out).mono ?_
          rintro e w5 ⟨v5, rfl, ho5, hb5⟩
          have hs5 := hs1.below hb5
          have hw5 : Below w.heap.size w w5 := hw1.trans (hb5.mono hw1.size)
          obtain ⟨a5, cap5, rfl, -, hc5, -⟩ := id (OwnEn.ens ho5)
          unfold maxLen at hc5
          clear hb5 ho5
          go_wp2_with fail
          refine (specTS_e hs5 HZS.out).mono ?_
          rintro e w6 ⟨v6, rfl, ho6, hb6⟩
          have hw6 : Below w.heap.size w w6 := hw5.trans (hb6.mono hw5.size)
          obtain ⟨a6, cap6, rfl, -, hc6, -⟩ := id (OwnEn.ens ho6)
          unfold maxLen at hc6
          clear hb6 ho6
          go_wp2_with fail
          refine (alive_any _).mono ?_
          rintro e w7 ⟨rfl, hb7⟩
          have hw7 : Below w.heap.size w w7 := hw6.trans (hb7.mono hw6.size)
          clear hb7
          go_wp2
          go_ret
          exact ⟨rfl, hw7⟩
        · have hp : Pf.ok ⟨p1, p2⟩ = false := by simpa [hv] using hgood
          go_wp2_with fail
          refine (specTV_b hs hv).mono ?_
          rintro e w1 ⟨rfl, hb1⟩
          have hs1 := hs.below hb1
          have hw1 : Below w.heap.size w w1 := hw0.trans (hb1.mono hw0.size)
          have e0 := (hb1.cell (p := ⟨w0.heap.size, 0, none⟩) qs).trans q0
          have e1 := (hb1.cell (p := ⟨w0.heap.size, 1, none⟩) qs).trans q1
          clear hb1 hs hgood hv q0 q1 q2
          go_wp2_with fail
          refine (specPf_b hp _).mono ?_
          rintro e w2 ⟨rfl, hb2⟩
          have hs2 := hs1.below hb2
          have hw2 : Below w.heap.size w w2 := hw1.trans (hb2.mono hw1.size)
          clear hb2 hs1 e0 e1
          go_wp2_with fail
          refine (implTS_e hs2 HZS.out).mono ?_
          rintro e w5 ⟨v5, rfl, ho5, hb5⟩
          have hs5 := hs2.below hb5
          have hw5 : Below w.heap.size w w5 := hw2.trans (hb5.mono hw2.size)
          obtain ⟨a5, cap5, rfl, -, hc5, -⟩ := id (OwnEn.ens ho5)
          unfold maxLen at hc5
          clear hb5 ho5
          go_wp2_with fail
          refine (specTS_e hs5 HZS.out).mono ?_
          rintro e w6 ⟨v6, rfl, ho6, hb6⟩
          have hw6 : Below w.heap.size w w6 := hw5.trans (hb6.mono hw5.size)
          obtain ⟨a6, cap6, rfl, -, hc6, -⟩ := id (OwnEn.ens ho6)
          unfold maxLen at hc6
          clear hb6 ho6
          go_wp2_with fail
          refine (alive_any _).mono ?_
          rintro e w7 ⟨rfl, hb7⟩
          have hw7 : Below w.heap.size w w7 := hw6.trans (hb7.mono hw6.size)
          clear hb7
          go_wp2
          go_ret
          exact ⟨rfl, hw7⟩
end Go.Proofs.Ytfnfpekjjmejnaa
