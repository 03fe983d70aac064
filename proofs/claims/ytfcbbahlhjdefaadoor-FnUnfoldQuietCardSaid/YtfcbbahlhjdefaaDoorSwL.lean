/- Sweeping along two sets: the program's walk (Less). -/
import Derived.Test.YtfcbbahlhjdefaaDoorCuW
import Derived.Test.YtfcbbahlhjdefaaDoorBsA
import Derived.Deep.DeepCutAuto
namespace Go.Proofs.YtfcbbahlhjdefaaDoor
open Go.RowKit
set_option maxHeartbeats 4000000 in
set_option maxRecDepth 100000 in
theorem sweepLess_any {lo lo' : Nat} (xs ys : List Sp) (u v : Value) (t : Int) (w : World) (hs : Sps lo w u xs) (ht : Sps lo' w v ys) (gx : sgood t 0 xs = true) (gy : sgood t 0 ys = true) (t0 : 0 ≤ t) (t1 : t ≤ 65535) :
    Calls Tryd.prog 69 #[u, v, .int .i64 t, .func (.func 79) #[] #[]] w fun e w' => ∃ z, e = .returned z ∧ ∃ zs, SW kLess xs ys (t + 1) zs ∧ OwnSp w.heap.size w' z zs ∧ Below w.heap.size w w' := by
  obtain ⟨a, cap, rfl, hlc, hcm⟩ := hs.form
  obtain ⟨a', cap', rfl, hlc', hcm'⟩ := ht.form
  unfold maxLen at hcm hcm'
  generalize hn : xs.length = n at *
  generalize hm : ys.length = m at *
  have HN := Lib.hid hn
  have HM := Lib.hid hm
  have GX := Lib.hid gx
  have GY := Lib.hid gy
  have HS := Lib.hid hs
  have HT := Lib.hid ht
  obtain ⟨i0, hi, hy0, hy1, hy2⟩ := info_parts infoSp
  clear hn hm gx gy hs ht
  go_enter Tryd.func69, Tryd.ntmps69
  go_wp2_with fail
  go_loopw [9, 10, 11, 12, 13, 14, 15, 16, 17, 18] (fun o i j c _ _ _ _ _ _ wr => ∃ (p q : Nat) (d : Int) (zs : List Sp), p ≤ n ∧ q ≤ m ∧ 0 ≤ d ∧ d ≤ t + 1 ∧ i = .int .i64 p ∧ j = .int .i64 q ∧ c = .int .i64 d ∧ Hid (Past xs p d) ∧ Hid (Past ys q d) ∧ Hid (SW kLess xs ys d zs) ∧ Hid (OwnSp w.heap.size wr o zs) ∧ Below w.heap.size w wr) (fun _ _ _ c _ _ _ _ _ _ _ => (t + 1 - intOf c).toNat)
  case atStart => exact ⟨0, 0, 0, [], by omega, by omega, by omega, by omega, rfl, rfl, rfl, Lib.hid (Past.zero _ _), Lib.hid (Past.zero _ _), Lib.hid (SW.nil _ _ _), Lib.hid (World.ownsRow_nil _ _ _ _), Below.refl _ _⟩
  case round =>
    obtain ⟨p, q, d, zs, hp, hq, hd0, hd1, rfl, rfl, rfl, HP, HQ, HW, HO, hbr⟩ := hrel
    have hzr := hbr.size
    by_cases hlt : d ≤ t
    · go_wp2_with fail
      go_loopw [10] (fun i wr2 => ∃ p' : Nat, p ≤ p' ∧ p' ≤ n ∧ i = .int .i64 p' ∧ Hid (Past xs p' d) ∧ Below wr.heap.size wr wr2) (fun i _ => n - (intOf i).toNat)
      case atStart => exact ⟨p, Nat.le_refl _, hp, rfl, HP, Below.refl _ _⟩
      case round =>
        obtain ⟨p', hpp, hpn, rfl, HP', hb2⟩ := hrel
        have hz2 := hb2.size
        have hw2 : Below w.heap.size w wr := hbr.trans (hb2.mono hzr)
        obtain ⟨g, hg⟩ : ∃ g : Bool, (match xs[p']? with | none => false | some x => decide (x.hi < d)) = g := ⟨_, rfl⟩
        have HG := Lib.hid hg
        clear hg HP
        go_upto_region 5 with (fail)
        go_cut [34] (fun r wx => r = .bool g ∧ Below wr.heap.size wr wx)
        case first =>
          by_cases hlp : p' < n
          · have i1 : (p' : Int) < (n : Int) := by omega
            have i2 : (0 : Int) ≤ (p' : Int) := by omega
            obtain ⟨b, o, f1, f2, rfl, hbl, hx1, c0, c1⟩ := (HS.out.below hw2).at (show p' < xs.length by rw [HN.out]; exact hlp)
            have HX := Lib.hid (show decide (f2 < d) = g by have := HG.out; rw [hx1] at this; exact this)
            clear hx1
            by_cases hl : f2 < d
            · have HXX := Lib.hid (show g = true by rw [← HX.out]; exact decide_eq_true hl)
              go_wp2_with fail
              go_meet
              exact ⟨by rw [HXX.out], Below.refl _ _⟩
            · have HXX := Lib.hid (show g = false by rw [← HX.out]; exact decide_eq_false hl)
              go_wp2_with fail
              go_meet
              exact ⟨by rw [HXX.out], Below.refl _ _⟩
          · have HXX := Lib.hid (show g = false by rw [← HG.out, List.getElem?_eq_none_iff.2 (by rw [HN.out]; omega)])
            go_wp2_with fail
            go_meet
            exact ⟨by rw [HXX.out], Below.refl _ _⟩
        case rest =>
          obtain ⟨rfl, hb3⟩ := hcut
          have hw3 : Below w.heap.size w wc := hw2.trans (hb3.mono hw2.size)
          have hz3 := hw3.size
          cases g
          · have HQ1 := Lib.hid (show ∀ x, xs[p']? = some x → d ≤ x.hi from fun x hx => by have := HG.out; rw [hx] at this; simpa using this)
            have hpn2 : (p' : Int) ≤ (n : Int) := by omega
            replace HO := Lib.hid (OwnSl.kept HO.out (hb2.trans (hb3.mono hz2)))
            clear hb3 hb2 hbr hw2
            go_wp2_with fail
            go_loopw [11] (fun j wr2 => ∃ q' : Nat, q ≤ q' ∧ q' ≤ m ∧ j = .int .i64 q' ∧ Hid (Past ys q' d) ∧ Below wc.heap.size wc wr2) (fun j _ => m - (intOf j).toNat)
            case atStart => exact ⟨q, Nat.le_refl _, hq, rfl, HQ, Below.refl _ _⟩
            case round =>
              obtain ⟨q', hqq, hqm, rfl, HQ', hb2⟩ := hrel
              have hz2 := hb2.size
              have hw2 : Below w.heap.size w wr := hw3.trans (hb2.mono hz3)
              obtain ⟨g, hg⟩ : ∃ g : Bool, (match ys[q']? with | none => false | some x => decide (x.hi < d)) = g := ⟨_, rfl⟩
              replace HG := Lib.hid hg
              clear hg HQ
              go_upto_region 7 with (fail)
              go_cut [49] (fun r wx => r = .bool g ∧ Below wr.heap.size wr wx)
              case first =>
                by_cases hlp : q' < m
                · have i1 : (q' : Int) < (m : Int) := by omega
                  have i2 : (0 : Int) ≤ (q' : Int) := by omega
                  obtain ⟨b, o, f1, f2, rfl, hbl, hx1, c0, c1⟩ := (HT.out.below hw2).at (show q' < ys.length by rw [HM.out]; exact hlp)
                  have HX := Lib.hid (show decide (f2 < d) = g by have := HG.out; rw [hx1] at this; exact this)
                  clear hx1
                  by_cases hl : f2 < d
                  · have HXX := Lib.hid (show g = true by rw [← HX.out]; exact decide_eq_true hl)
                    go_wp2_with fail
                    go_meet
                    exact ⟨by rw [HXX.out], Below.refl _ _⟩
                  · have HXX := Lib.hid (show g = false by rw [← HX.out]; exact decide_eq_false hl)
                    go_wp2_with fail
                    go_meet
                    exact ⟨by rw [HXX.out], Below.refl _ _⟩
                · have HXX := Lib.hid (show g = false by rw [← HG.out, List.getElem?_eq_none_iff.2 (by rw [HM.out]; omega)])
                  go_wp2_with fail
                  go_meet
                  exact ⟨by rw [HXX.out], Below.refl _ _⟩
              case rest =>
                obtain ⟨rfl, hb3⟩ := hcut
                replace hw3 : Below w.heap.size w wc := hw2.trans (hb3.mono hw2.size)
                replace hz3 := hw3.size
                cases g
                · have HQ2 := Lib.hid (show ∀ x, ys[q']? = some x → d ≤ x.hi from fun x hx => by have := HG.out; rw [hx] at this; simpa using this)
                  have hqm2 : (q' : Int) ≤ (m : Int) := by omega
                  replace HO := Lib.hid (OwnSl.kept HO.out (hb2.trans (hb3.mono hz2)))
                  clear hb3 hb2 hw2 HG
                  obtain ⟨ra, ea, hra⟩ : ∃ r e, str xs p' d t = (r, e) := ⟨_, _, rfl⟩
                  obtain ⟨rb, eb, hrb⟩ : ∃ r e, str ys q' d t = (r, e) := ⟨_, _, rfl⟩
                  have A1 := Lib.hid (str_spec GX.out HP'.out HQ1.out hlt)
                  have B1 := Lib.hid (str_spec GY.out HQ'.out HQ2.out hlt)
                  rw [hra] at A1
                  rw [hrb] at B1
                  have hA0 := A1.out.1
                  have hA1 := A1.out.2.1
                  have hB0 := B1.out.1
                  have hB1 := B1.out.2.1
                  simp only at hA0 hA1 hB0 hB1
                  have HSD := Lib.hid ((HS.out.below hw3).dropS hpn)
                  have HTD := Lib.hid ((HT.out.below hw3).dropS hqm)
                  have G1 := Lib.hid (show ∀ x, (xs.drop p')[0]? = some x → -1000000 ≤ x.lo ∧ x.lo ≤ 1000000 from fun x hx => by
                    rw [List.getElem?_drop] at hx
                    have := sgood_get GX.out hx
                    omega)
                  have G2 := Lib.hid (show ∀ x, (ys.drop q')[0]? = some x → -1000000 ≤ x.lo ∧ x.lo ≤ 1000000 from fun x hx => by
                    rw [List.getElem?_drop] at hx
                    have := sgood_get GY.out hx
                    omega)
                  replace hra := Lib.hid hra
                  replace hrb := Lib.hid hrb
                  obtain ⟨en, hen⟩ : ∃ en, (if eb < ea then eb else ea) = en := ⟨_, rfl⟩
                  have HEN := Lib.hid hen
                  obtain ⟨kb, hkb⟩ : ∃ kb, kLess ra rb = kb := ⟨_, rfl⟩
                  have hen0 : d ≤ en := by rw [← hen]; split <;> assumption
                  have hen1 : en ≤ t := by rw [← hen]; split <;> assumption
                  have HK := Lib.hid (show ∀ x, d ≤ x → x ≤ en → kLess (shas xs x) (shas ys x) = kb from fun x h1 h2 => by
                    rw [A1.out.2.2 x h1 (by rw [← HEN.out] at h2; split at h2 <;> simp only <;> omega), B1.out.2.2 x h1 (by rw [← HEN.out] at h2; split at h2 <;> simp only <;> omega)]
                    exact hkb)
                  go_upto_region 12 with (first | (refine wpList_slice_from rfl rfl (sz := 2) Tryd.underlying65 hi hy1 rfl rfl (by first | exact hpn | exact hqm) ?_) | (go_at_call 77; first | ((fail_if_success have := hb4); refine (stretch_b HSD.out G1.out ((str_drop _ _ _ _).trans hra.out)).mono ?_; rintro e w4 ⟨rfl, hb4⟩) | (refine (stretch_b (HTD.out.below hb4) G2.out ((str_drop _ _ _ _).trans hrb.out)).mono ?_; rintro e w5 ⟨rfl, hb5⟩)))
                  (try rw [hen])
                  have hw5 : Below w.heap.size w w5 := hw3.trans ((hb4.trans (hb5.mono hb4.size)).mono hz3)
                  have hz5 := hw5.size
                  have HO5 := Lib.hid (OwnSl.kept HO.out (hb4.trans (hb5.mono hb4.size)))
                  obtain ⟨ua, uc, hu⟩ : ∃ a c, u9 = .slice a zs.length c := by
                    rcases OwnSl.form HO5.out with ⟨h, h'⟩ | ⟨g, c, h, _⟩
                    · exact ⟨_, _, by rw [h, h']; rfl⟩
                    · exact ⟨_, _, h⟩
                  subst hu
                  have HBD := Lib.hid (show zs.length ≤ 40000 by have := sgood_len HW.out.1; omega)
                  have HEQ := Lib.hid (show en + 1 ≤ t + 1 by omega)
                  clear hb4 hb5 HO hen HSD HTD G1 G2 hra hrb A1 B1 hA0 hA1 hB0 hB1 HEN
                  cases kb
                  · have HW2 := Lib.hid (HW.out.skip hd0 hen0 HK.out)
                    go_wp2_with (go_at_call 79; refine (inFirstOnly_b _ hkb).mono ?_; rintro e _ ⟨rfl, rfl⟩)
                    go_roundw
                    case rel => exact ⟨p', q', en + 1, zs, hpn, hqm, by omega, by omega, rfl, rfl, by go_num, Lib.hid (HP'.out.mono (by omega)), Lib.hid (HQ'.out.mono (by omega)), HW2, HO5, hw5⟩
                    case measure => simp [intOf]; omega
                  · by_cases hpush : ∀ (k : Nat) x, k + 1 = zs.length → zs[k]? = some x → x.hi + 1 ≠ d
                    · have HW2 := Lib.hid (HW.out.push hd0 hen0 HK.out hpush)
                      by_cases hz0 : zs.length = 0
                      · obtain rfl : zs = [] := List.eq_nil_of_length_eq_zero hz0
                        simp only [List.length_nil] at HO5 ⊢
                        go_wp2_with (first | (go_at_call 79; refine (inFirstOnly_b _ hkb).mono ?_; rintro e _ ⟨rfl, rfl⟩) | (at_builtin; refine wpList_append_own _ rfl _ _ 65 rfl w.heap.size 64 i0 _ 2 16 Tryd.underlying65 hi hy0 hy1 hy2 rfl (by decide) _ _ _ rfl (World.ownsRow.alloc HO5.out _) ⟨w5.heap.size, 0, none⟩ 1 1 (Sp.enc ⟨d, en⟩) rfl rfl ?c1 ?c2 ?c3 ?c4 ?c5 ?_))
                        case c1 => exact cellsNew w5 (Sp.enc ⟨d, en⟩) _
                        case c2 => simp [Value.oneCell']
                        case c3 => simp only [maxLen]; omega
                        case c4 => omega
                        case c5 => simp; omega
                        intro v' w6 hown6 hgrow6 _
                        have hB := belGrown (hw5.alloc (by omega) _) (World.ownsRow.alloc HO5.out _) hgrow6 (by simp; omega)
                        have HO6 := Lib.hid (show OwnSp w.heap.size w6 v' ([] ++ [⟨d, en⟩]) by unfold OwnSp OwnSl; simpa using hown6)
                        clear hown6 hgrow6
                        go_wp2
                        go_roundw
                        case rel => exact ⟨p', q', en + 1, _, hpn, hqm, by omega, by omega, rfl, rfl, by go_num, Lib.hid (HP'.out.mono (by omega)), Lib.hid (HQ'.out.mono (by omega)), HW2, HO6, hB⟩
                        case measure => simp [intOf]; omega
                      · obtain ⟨⟨s1, s2⟩, hls⟩ : ∃ x, zs[zs.length - 1]? = some x := ⟨_, List.getElem?_eq_getElem (by omega)⟩
                        have hne := hpush (zs.length - 1) _ (by omega) hls
                        simp only at hne
                        have hgs := sgood_get HW.out.1 hls
                        simp only at hgs
                        have hq0 : ((s2 + 1) == d) = false := by simpa using hne
                        have hq1 : 0 ≤ s2 := by omega
                        have hq2 : s2 ≤ 65535 := by omega
                        rcases OwnSl.form HO5.out with ⟨_, h'⟩ | ⟨gb, c, h, hg1, hg2, hg3, -⟩
                        · rw [h'] at hz0; simp at hz0
                        · obtain ⟨rfl, -, rfl⟩ := Value.slice.inj h
                          have hcz := OwnSl.cell (sz := 2) (enc := Sp.enc) (fun _ => rfl) HO5.out hls
                          have d1 := hcz 1 _ rfl
                          simp only at d1
                          clear hcz hgs
                          have hb40 := HBD.out
                          have j0 : (0 : Int) < (zs.length : Int) := by omega
                          have j1 : ((zs.length : Int) - 1) < (zs.length : Int) := by omega
                          have j2 : 0 ≤ ((zs.length : Int) - 1) := by omega
                          have j3 : ((zs.length : Int) - 1).toNat = zs.length - 1 := by omega
                          go_wp2_with (first | (go_at_call 79; refine (inFirstOnly_b _ hkb).mono ?_; rintro e _ ⟨rfl, rfl⟩) | (at_builtin; refine wpList_append_own _ rfl _ _ 65 rfl w.heap.size 64 i0 _ 2 16 Tryd.underlying65 hi hy0 hy1 hy2 rfl (by decide) _ _ _ rfl (World.ownsRow.alloc HO5.out _) ⟨w5.heap.size, 0, none⟩ 1 1 (Sp.enc ⟨d, en⟩) rfl rfl ?c1 ?c2 ?c3 ?c4 ?c5 ?_))
                          case c1 => exact cellsNew w5 (Sp.enc ⟨d, en⟩) _
                          case c2 => simp [Value.oneCell']
                          case c3 => have := HBD.out; simp only [maxLen]; omega
                          case c4 => have := HBD.out; omega
                          case c5 => simp; omega
                          intro v' w6 hown6 hgrow6 _
                          have hB := belGrown (hw5.alloc (by omega) _) (World.ownsRow.alloc HO5.out _) hgrow6 (by simp; omega)
                          have HO6 := Lib.hid (OwnSl.pushed rfl hown6)
                          clear hown6 hgrow6
                          go_wp2
                          go_roundw
                          case rel => exact ⟨p', q', en + 1, _, hpn, hqm, by omega, by omega, rfl, rfl, by go_num, Lib.hid (HP'.out.mono (by omega)), Lib.hid (HQ'.out.mono (by omega)), HW2, HO6, hB⟩
                          case measure => simp [intOf]; omega
                    · have hex : ∃ (k : Nat) (x : Sp), k + 1 = zs.length ∧ zs[k]? = some x ∧ x.hi + 1 = d :=
                        Classical.byContradiction (fun h => hpush (fun k x h1 h2 h3 => h ⟨k, x, h1, h2, h3⟩))
                      obtain ⟨k, ⟨s1, s2⟩, hk1, hk2, hk3⟩ := hex
                      have HW2 := Lib.hid (HW.out.grow hd0 hen0 HK.out hk1 hk2 hk3)
                      have hgs := sgood_get HW.out.1 hk2
                      simp only at hgs hk3
                      have hq0 : ((s2 + 1) == d) = true := by simpa using hk3
                      have hq1 : 0 ≤ s2 := by omega
                      have hq2 : s2 ≤ 65535 := by omega
                      rcases OwnSl.form HO5.out with ⟨_, h'⟩ | ⟨gb, c, h, hg1, hg2, hg3, -⟩
                      · rw [h'] at hk1; simp at hk1
                      · obtain ⟨rfl, -, rfl⟩ := Value.slice.inj h
                        have hcz := OwnSl.cell (sz := 2) (enc := Sp.enc) (fun _ => rfl) HO5.out hk2
                        have d1 := hcz 1 _ rfl
                        have hfz : ∀ j, w5.frozen? ⟨gb, j, none⟩ = false := OwnSl.frz HO5.out
                        simp only at d1
                        clear hcz hgs
                        obtain ⟨k6, k7⟩ := OwnSl.storeAt (sz := 2) (enc := Sp.enc) (fun _ => rfl) rfl HO5.out hk2 (j := 1) (c := .int .i64 en) (y' := ⟨s1, en⟩) (by decide) rfl
                        have hB6 := Lib.hid (belGrown hw5 HO5.out k7 (by omega))
                        have HO6 := Lib.hid k6
                        have hb40 := HBD.out
                        have j0 : (0 : Int) < (zs.length : Int) := by omega
                        have j1 : ((zs.length : Int) - 1) < (zs.length : Int) := by omega
                        have j2 : 0 ≤ ((zs.length : Int) - 1) := by omega
                        have j3 : ((zs.length : Int) - 1).toNat = k := by omega
                        replace hk1 := Lib.hid hk1
                        clear k6 k7
                        go_wp2_with (go_at_call 79; refine (inFirstOnly_b _ hkb).mono ?_; rintro e _ ⟨rfl, rfl⟩)
                        go_roundw
                        case rel => exact ⟨p', q', en + 1, _, hpn, hqm, by omega, by omega, rfl, rfl, rfl, Lib.hid (HP'.out.mono (by omega)), Lib.hid (HQ'.out.mono (by omega)), HW2, HO6, hB6.out⟩
                        case measure => simp [intOf]; omega
                · have hlp : q' < m := by
                    refine Decidable.byContradiction (fun h => ?_)
                    have := HG.out
                    rw [List.getElem?_eq_none_iff.2 (by rw [HM.out]; omega)] at this
                    cases this
                  obtain ⟨x, hx⟩ : ∃ x, ys[q']? = some x := ⟨_, List.getElem?_eq_getElem (by rw [HM.out]; exact hlp)⟩
                  have HP2 := Lib.hid (HQ'.out.step hx (by have := HG.out; rw [hx] at this; simpa using this))
                  clear hx
                  go_wp2_with fail
                  go_roundw
                  case rel => exact ⟨q' + 1, by omega, by omega, by go_num, HP2, hb2.trans (hb3.mono hz2)⟩
                  case measure => simp [intOf]; omega
          · have hlp : p' < n := by
              refine Decidable.byContradiction (fun h => ?_)
              have := HG.out
              rw [List.getElem?_eq_none_iff.2 (by rw [HN.out]; omega)] at this
              cases this
            obtain ⟨x, hx⟩ : ∃ x, xs[p']? = some x := ⟨_, List.getElem?_eq_getElem (by rw [HN.out]; exact hlp)⟩
            have HP2 := Lib.hid (HP'.out.step hx (by have := HG.out; rw [hx] at this; simpa using this))
            clear hx
            go_wp2_with fail
            go_roundw
            case rel => exact ⟨p' + 1, by omega, by omega, by go_num, HP2, hb2.trans (hb3.mono hz2)⟩
            case measure => simp [intOf]; omega
    · go_wp2
      go_ret
      have hdt : d = t + 1 := by omega
      subst hdt
      exact ⟨_, rfl, zs, HW.out, HO.out, hbr⟩
end Go.Proofs.YtfcbbahlhjdefaaDoor
