/- The law FnTableWhole: the walk. -/
import Derived.Test.YtfnfpekjjmejnaaRdTF
import Derived.Test.YtfnfpekjjmejnaaPutE
import Derived.Test.YtfnfpekjjmejnaaTbE
import Derived.Test.YtfnfpekjjmejnaaLTF
namespace Go.Proofs.Ytfnfpekjjmejnaa
open Go.RowKit
theorem implTP_w {xs zs : List En} {r : Bool} {v : Value} {p1 p2 p3 : Int} {w : World} (hs : Ens w v xs) (h1 : (tput xs ⟨⟨p1, p2⟩, p3⟩).1 = zs) (h2 : (tput xs ⟨⟨p1, p2⟩, p3⟩).2 = r) :
    Calls Try.prog 39 #[v, .agg #[.int .i64 p1, .int .i64 p2, .int .i64 p3]] w (RetEnB zs r w) := by
  subst h1 h2
  exact implTP_any xs v p1 p2 p3 w hs
/-- The first entry is for all addresses. -/
def whole (xs : List En) : Bool := decide ((xs[0]?).map (·.w) = some ⟨0, 0⟩)
set_option maxRecDepth 100000 in
set_option maxHeartbeats 4000000 in
theorem law_FnTableWhole (bs : List Int) (v : Value) (w : World) (h : CodeAt w v bs) :
    Calls Try.prog 12 #[v] w fun e w' => e = .returned (.bool true) ∧ Below w.heap.size w w' := by
  have h' := h
  obtain ⟨a, cap, rfl, l1, l2, hx⟩ := code_cells h'
  clear hx h'
  unfold maxLen at l2
  by_cases hl : 1048576 < bs.length
  · go_enter Try.func12, Try.ntmps12
    go_wp2
    go_ret
    exact ⟨rfl, by (repeat' (first | with_reducible exact Below.refl _ _ | with_reducible assumption | with_reducible refine Below.setCell ?_ ?_ _ | with_reducible refine Below.alloc ?_ ?_ _ | with_reducible refine Below.drew ?_ | with_reducible refine belDrewN ?_ _ | with_reducible refine Below.trans ?_ (Below.mono (by assumption) ?_) | omega | (simp; omega) | (simp; done)))⟩
  · go_enter Try.func12, Try.ntmps12
    go_wp2_with fail
    refine (drawTF_any _ _ _ h).mono ?_
    rintro e w0 ⟨v0, xs, a, rfl, ho, hlen, hb0⟩
    have hz0 := hb0.size
    have hs := OwnEn.ens ho
    clear ho h
    obtain ⟨sa, cap0, rfl, hlc, hcm, -⟩ := id hs
    unfold maxLen at hcm
    obtain ⟨f, hf⟩ : ∃ f, tfind xs a = f := ⟨_, rfl⟩
    obtain ⟨zs, hzs⟩ : ∃ zs, (tput xs ⟨⟨0, 0⟩, 7⟩).1 = zs := ⟨_, rfl⟩
    obtain ⟨r, hr⟩ : ∃ r, (tput xs ⟨⟨0, 0⟩, 7⟩).2 = r := ⟨_, rfl⟩
    have HR := Lib.hid hr
    have HZS := Lib.hid hzs
    have HFF := Lib.hid hf
    go_wp2_with fail
    refine (implTF_b hs hf).mono ?_
    rintro e w1 ⟨rfl, hb1⟩
    have hs1 := hs.below hb1
    go_wp2_with fail
    refine (specTF_b hs1 hf).mono ?_
    rintro e w2 ⟨rfl, hb2⟩
    have hs2 := hs1.below hb2
    have hw2 : Below w.heap.size w w2 := hb0.trans ((hb1.trans (hb2.mono hb1.size)).mono hz0)
    clear hf hs hs1 hb0 hb1 hb2
    go_wp2_with fail
    refine (implTP_w hs2 hzs hr).mono ?_
    rintro e w3 ⟨v3, rfl, ho3, hb3⟩
    have hw3 : Below w.heap.size w w3 := hw2.trans (hb3.mono hw2.size)
    have hs3 := hs2.below hb3
    have HX3 := Lib.hid (OwnEn.ens ho3)
    clear hs2 ho3 hb3 hw2 hzs hr
    have hgd := pfGuard
    go_upto_region 8 with (fail)
    go_cut [8] (fun t wx => t = .bool (whole xs) ∧ Below w3.heap.size w3 wx)
    case first =>
      by_cases h0 : 0 < xs.length
      · obtain ⟨b, o, f1, f2, f3, rfl, hbl, hx, c0, c1, c2⟩ := hs3.at h0
        have hq := pf_equal f1 f2 0 0
        have HQ := Lib.hid (show whole xs = decide (Pf.mk f1 f2 = ⟨0, 0⟩) by unfold whole; rw [hx]; simp)
        simp only [Nat.zero_mul, Nat.add_zero] at c0 c1 c2
        have h0' : (0 : Int) < (xs.length : Int) := by omega
        obtain ⟨d, hd⟩ : ∃ d, decide (Pf.mk f1 f2 = ⟨0, 0⟩) = d := ⟨_, rfl⟩
        rw [hd] at hq HQ
        clear hd hx c2
        go_wp2_with fail
        go_meet
        exact ⟨by rw [HQ.out], Below.refl _ _⟩
      · have hn : whole xs = false := by
          unfold whole
          rw [List.getElem?_eq_none (by omega)]
          rfl
        have HN := Lib.hid hn
        have h0' : ¬ (0 : Int) < (xs.length : Int) := by omega
        clear hn
        go_wp2_with fail
        go_meet
        exact ⟨by rw [HN.out], Below.refl _ _⟩
    case rest =>
      obtain ⟨rfl, hbc⟩ := hcut
      have hsx := hs3.below hbc
      have HXX := Lib.hid (HX3.out.below hbc)
      have hwx : Below w.heap.size w _ := hw3.trans (hbc.mono hw3.size)
      clear hs3 HX3 hw3 hbc
      obtain ⟨wh, hwh⟩ : ∃ wh, whole xs = wh := ⟨_, rfl⟩
      rw [hwh]
      have HWH := Lib.hid hwh
      clear hwh
      by_cases hgood : r = true ∧ wh = false ∧ inB a 0 65535 = true
      · obtain ⟨rfl, rfl, ha⟩ := hgood
        obtain ⟨ha0, ha1⟩ := inB_iff.1 ha
        obtain ⟨hv, -, hzp, hl30⟩ := tput_yes HR.out
        have HW := Lib.hid (show tfind zs a = if 0 ≤ f then f else 7 by
          rw [← HZS.out, hzp, ← HFF.out]
          refine whole_find hv (first_least hv (fun x hx he => ?_)) hl30 ha
          have := HWH.out
          unfold whole at this
          rw [hx] at this
          simp [he] at this)
        obtain ⟨g, hg⟩ : ∃ g, tfind zs a = g := ⟨_, rfl⟩
        have HG := Lib.hid hg
        clear ha hv hzp hl30 hg
        go_wp2_with fail
        refine (implTF_b HXX.out HG.out).mono ?_
        rintro e w5 ⟨rfl, hb5⟩
        have hw5 : Below w.heap.size w w5 := hwx.trans (hb5.mono hwx.size)
        have HF := Lib.hid (HG.out.symm.trans HW.out)
        by_cases hf0 : 0 ≤ f
        · have hgf : g = f := by rw [HF.out, if_pos hf0]
          subst hgf
          go_wp2
          go_ret
          exact ⟨rfl, hw5⟩
        · have hgf : g = 7 := by rw [HF.out, if_neg hf0]
          subst hgf
          go_wp2
          go_ret
          exact ⟨rfl, hw5⟩
      · have hA := alive_any
        cases r
        · go_wp2_with fail
          refine (alive_any _).mono ?_
          rintro e w5 ⟨rfl, hb5⟩
          have hw5 : Below w.heap.size w w5 := hwx.trans (hb5.mono hwx.size)
          go_wp2
          go_ret
          exact ⟨rfl, hw5⟩
        · cases wh
          · have hout : a < 0 ∨ 65535 < a := by
              by_cases h1 : a < 0
              · exact .inl h1
              · refine .inr (Int.not_le.1 (fun h2 => hgood ⟨rfl, rfl, inB_true (by omega) h2⟩))
            clear hgood
            rcases hout with ho | ho
            · go_wp2_with fail
              refine (alive_any _).mono ?_
              rintro e w5 ⟨rfl, hb5⟩
              have hw5 : Below w.heap.size w w5 := hwx.trans (hb5.mono hwx.size)
              go_wp2
              go_ret
              exact ⟨rfl, hw5⟩
            · have ho2 : ¬ a < 0 := by omega
              go_wp2_with fail
              refine (alive_any _).mono ?_
              rintro e w5 ⟨rfl, hb5⟩
              have hw5 : Below w.heap.size w w5 := hwx.trans (hb5.mono hwx.size)
              go_wp2
              go_ret
              exact ⟨rfl, hw5⟩
          · go_wp2_with fail
            refine (alive_any _).mono ?_
            rintro e w5 ⟨rfl, hb5⟩
            have hw5 : Below w.heap.size w w5 := hwx.trans (hb5.mono hwx.size)
            go_wp2
            go_ret
            exact ⟨rfl, hw5⟩
end Go.Proofs.Ytfnfpekjjmejnaa
