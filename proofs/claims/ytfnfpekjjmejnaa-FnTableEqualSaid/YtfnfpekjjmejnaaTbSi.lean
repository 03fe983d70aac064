/- TableShrink: the program's; TableDrop: the reference's. -/
import Derived.Test.YtfnfpekjjmejnaaTbSh
import Derived.Laws.StructEq
namespace Go.Proofs.Ytfnfpekjjmejnaa
open Go.RowKit
set_option maxHeartbeats 2000000 in
theorem implTS_any (xs : List En) (v : Value) (w : World) (hs : Ens w v xs) :
    Calls Try.prog 30 #[v] w (RetEn (tshrink xs) w) := by
  obtain ⟨a, cap, rfl, hlc, hcm, -⟩ := id hs
  unfold maxLen at hcm
  generalize hn : xs.length = n at *
  have HN := Lib.hid hn
  clear hn
  cases hv : tvalid xs
  · have HT := Lib.hid (show tshrink xs = [] by simp [tshrink, hv])
    rw [HT.out]
    go_enter Try.func30, Try.ntmps30
    
    go_wp2_with fail; refine (implTV_b hs hv).mono ?_; rintro e w1 ⟨rfl, hb1⟩; obtain ⟨hc1, hf1⟩ := bcell hb1; have hz1 := hb1.size; (try simp at hz1); (try have hz1_w_0 : w.heap.size < w1.heap.size := (by omega)); (try have hz1_w_1 : w.heap.size + 1 < w1.heap.size := (by omega)); (try have hz1_w_2 : w.heap.size + 2 < w1.heap.size := (by omega))
    go_wp2
    go_ret
    exact ⟨_, rfl, OwnSl.nil _ _ _ _ _, by (repeat' (first | with_reducible exact Below.refl _ _ | with_reducible assumption | with_reducible refine Below.setCell ?_ ?_ _ | with_reducible refine Below.alloc ?_ ?_ _ | with_reducible refine Below.drew ?_ | with_reducible refine belDrewN ?_ _ | with_reducible refine Below.trans ?_ (Below.mono (by assumption) ?_) | omega | (simp; omega) | (simp; done)))⟩
  · have HT := Lib.hid (show tshrink xs = shr xs n by simp [tshrink, hv, HN.out])
    rw [HT.out]
    have h30 := ((tvalid_iff xs).1 hv).1
    rw [HN.out] at h30
    have HV := Lib.hid hv
    clear hv
    obtain ⟨i0, hi, hz0, hz1, hz2⟩ := info_parts infoEn
    go_enter Try.func30, Try.ntmps30
    go_wp2_with fail
    refine (implTV_b hs HV.out).mono ?_
    rintro e w1 ⟨rfl, hb1⟩
    have hzz1 := hb1.size
    go_wp2_with fail
    refine (trieOf_any xs _ _ (hs.below hb1) HV.out).mono ?_
    rintro e w2 ⟨v2, ps, rfl, hwf, ho, hb2⟩
    have hzz2 := hb2.size
    have HND := Lib.hid (OwnNd.nds ho)
    have HW := Lib.hid hwf
    clear ho hwf
    have hw2 : Below w.heap.size w w2 := hb1.trans (hb2.mono hzz1)
    clear hb1 hb2
    go_wp2_with (at_make; refine wpList_make_own _ rfl _ _ 25 rfl w2.heap.size 35 i0 _ 3 Try.underlying25 hi hz0 hz1 _ _ _ n rfl rfl rfl ?b1 ?b2 ?b3 ?_)
    case b1 => rw [hz2]; omega
    case b2 => simp only [maxLen]; omega
    case b3 => omega
    intro w3 hown3 hgrow3
    have hb3 : Below w2.heap.size w2 w3 := (Below.refl _ _).grown hgrow3 (Nat.le_refl _) (fun k hk => by cases hk)
    clear hgrow3
    have hzz3 := hb3.size
    have HO3 := Lib.hid (OwnSl.mono (base' := w2.heap.size) (show OwnSl w2.heap.size 35 3 En.enc w3 _ ([] : List En) by simpa using! hown3) (Nat.le_refl _)); clear hown3
    go_wp2_with fail
    go_loopw [4, 17] (fun v i wr => ∃ k : Nat, k ≤ n ∧ i = .int .i64 k ∧ OwnEn w2.heap.size wr v (shr xs k) ∧ Below w2.heap.size w2 wr) (fun _ i _ => n - (intOf i).toNat)
    case atStart => exact ⟨0, by omega, rfl, HO3.out, hb3⟩
    case round =>
      obtain ⟨k, hk, rfl, hown, hbr⟩ := hrel
      have HO := Lib.hid hown; clear hown HO3 hb3
      have hwr : Below w.heap.size w wr := hw2.trans (hbr.mono hw2.size)
      have hs2 := Lib.hid (hs.below hwr)
      have hnd2 := Lib.hid (HND.out.below hbr)
      have hzr := hbr.size
      by_cases hlt : k < n
      · obtain ⟨b, o, f1, f2, f3, rfl, hbl, hx, c0, c1, c2⟩ := hs2.out.at (show k < xs.length by rw [HN.out]; exact hlt)
        have HX := Lib.hid hx
        have hok := tgood_ok ((tvalid_iff xs).1 HV.out).2 hx
        obtain ⟨hpf, hf0, hf1⟩ := en_ok hok
        obtain ⟨m, l, e1, e2, hl16, hm, _⟩ := pf_nat hpf
        subst e1 e2
        simp only at hf0 hf1
        have HB := Lib.hid (shr_best HV.out hx)
        simp only [HN.out, Int.toNat_natCast] at HB
        clear hx hok hpf
        have i1 : (k : Int) < (n : Int) := by omega
        have i2 : (0 : Int) ≤ (k : Int) := by omega
        have hlen := shr_len xs k
        have hE := @trieFind_any ps _ HW.out v2 m hm ((l : Int) - 1) (by omega) (by omega)
        rw [show ((l : Int) - 1 + 1).toNat = l by omega] at hE
        have HE := Lib.hid hE
        clear hE
        generalize hbb : best (valsOf xs) m l = bb at *
        clear hbb
        have i4 : IntKind.i64.wrap ((l : Int) - 1) = (l : Int) - 1 := IntWalk.i64_in _ (by omega)
        have hal : Below wr.heap.size wr (wr.alloc (.cells #[.int .i64 m, .int .i64 l, .int .i64 f3] 35)) := (Below.refl _ _).alloc (Nat.le_refl _) _
        have hnd3 := Lib.hid (hnd2.out.below hal)
        by_cases heq : bb = f3
        · have HS := Lib.hid (shr_drop HX.out HN.out (by rw [HB.out]; exact heq))
          have g1 : (bb == f3) = true := by simpa using heq
          have g2 : (bb != f3) = false := by simpa using heq
          clear heq
          go_wp2_with fail
          refine wp_region_over (by kernel_rfl) (by kernel_rfl) (fun ov => ?_); have ov0 := fun x => ov x (wr.heap.size) (by (try simp) <;> omega); clear ov; (repeat (go_big_quiet_step (first | (go_at_call 52; exact callsOver (HE.out _ (hnd3.out.below (over_below _ _))))))); refine wpQuiet_nil ?_; intro w9 hw9; have hb_w9 := below_over hw9; clear hw9 ov0
          clear i4
          have hq9 : Below wr.heap.size wr w9 := hal.trans (hb_w9.mono (by simp))
          have hw9 : Below w2.heap.size w2 w9 := hbr.trans (hq9.mono hzr)
          go_wp2
          go_roundw
          case rel => exact ⟨k + 1, by omega, by go_num, by rw [HS.out]; exact OwnSl.kept HO.out hq9, hw9⟩
          case measure => simp [intOf]; omega
        · have HS := Lib.hid (shr_keep HX.out HN.out (by rw [HB.out]; exact heq))
          have g1 : (bb == f3) = false := by simpa using heq
          have g2 : (bb != f3) = true := by simpa using heq
          clear heq
          go_wp2_with fail
          refine wp_region_over (by kernel_rfl) (by kernel_rfl) (fun ov => ?_); have ov0 := fun x => ov x (wr.heap.size) (by (try simp) <;> omega); clear ov; (repeat (go_big_quiet_step (first | (go_at_call 52; exact callsOver (HE.out _ (hnd3.out.below (over_below _ _))))))); refine wpQuiet_nil ?_; intro w9 hw9; have hb_w9 := below_over hw9; clear hw9 ov0
          clear i4
          have hq9 : Below wr.heap.size wr w9 := hal.trans (hb_w9.mono (by simp))
          have hw9 : Below w2.heap.size w2 w9 := hbr.trans (hq9.mono hzr)
          have hz9 := hw9.size
          have kb := ownCells hb_w9 wr.heap.size (by simp)
          have k0 := kb 0; have k1 := kb 1; have k2 := kb 2
          simp at k0 k1 k2
          have hz9' := hb_w9.size; simp at hz9'
          clear hb_w9 kb c0 c1 c2
          go_wp2_with (at_builtin; refine wpList_append_own _ rfl _ _ 25 rfl w2.heap.size 35 i0 _ 3 24 Try.underlying25 hi hz0 hz1 hz2 rfl (by decide) _ _ _ rfl (World.ownsRow.alloc (OwnSl.kept HO.out hq9) _) ⟨w9.heap.size, 0, none⟩ 1 1 (En.enc ⟨⟨m, l⟩, f3⟩) rfl rfl ?c1 ?c2 ?c3 ?c4 ?c5 ?_)
          case c1 => exact cellsNew w9 (En.enc ⟨⟨m, l⟩, f3⟩) _
          case c2 => simp [Value.oneCell']
          case c3 => simp only [maxLen]; omega
          case c4 => omega
          case c5 => simp; omega
          intro v' w4 hown4 hgrow4 _
          have hB := belGrown (hw9.alloc (by omega) _) (World.ownsRow.alloc (OwnSl.kept HO.out hq9) _) hgrow4 (by simp; omega)
          have HO4 := Lib.hid (OwnSl.pushed rfl hown4)
          clear hown4 hgrow4
          go_wp2
          go_roundw
          case rel => exact ⟨k + 1, by omega, by go_num, by rw [HS.out]; exact HO4.out, hB⟩
          case measure => simp [intOf]; omega
      · have HE := Lib.hid (show k = n by omega)
        go_wp2
        go_ret
        refine ⟨_, rfl, ?_, hwr⟩
        have := OwnSl.mono (base' := w.heap.size) HO.out hw2.size
        rwa [HE.out] at this
/-- What TableDrop leaves of the first k entries. -/
def tdropK (xs : List En) (p : Pf) (k : Nat) : List En := (xs.take k).filter fun e => !decide (e.w = p)
def tdrop (xs : List En) (p : Pf) : List En := if tvalid xs then tdropK xs p xs.length else []
def tdropB (xs : List En) (p : Pf) : Bool := if tvalid xs then decide ((tdropK xs p xs.length).length < xs.length) else false
theorem tdropK_len (xs : List En) (p : Pf) (k : Nat) : (tdropK xs p k).length ≤ k := Nat.le_trans (List.length_filter_le _ _) (List.length_take_le _ _)
theorem tdropK_keep {xs : List En} {p : Pf} {k : Nat} {e : En} (hx : xs[k]? = some e) (h : e.w ≠ p) : tdropK xs p (k + 1) = tdropK xs p k ++ [e] := by
  unfold tdropK
  rw [List.take_add_one, hx]
  simp [h]
theorem tdropK_drop {xs : List En} {p : Pf} {k : Nat} {e : En} (hx : xs[k]? = some e) (h : e.w = p) : tdropK xs p (k + 1) = tdropK xs p k := by
  unfold tdropK
  rw [List.take_add_one, hx]
  simp [h]
def RetEnB (ys : List En) (r : Bool) (w : World) (e : Ending) (w' : World) : Prop := ∃ v, e = .returned (.tuple #[v, .bool r]) ∧ OwnEn w.heap.size w' v ys ∧ Below w.heap.size w w'
theorem pfStruct : Try.prog.underlying 33 = some (.struct (Try.prog.fieldsOf 33)) := by kernel_rfl
theorem pfHeld : Try.prog.stoodInHeld 33 = false := by kernel_rfl
theorem pfGuard : Try.prog.eqGuardType Try.prog.depth 33 = false := by kernel_rfl
theorem pf_equal (a1 a2 b1 b2 : Int) (w : World) : (Op.equalIn 10000 33 (.agg #[.int .i64 a1, .int .i64 a2]) (.agg #[.int .i64 b1, .int .i64 b2])).run Try.prog w = .ok (decide (Pf.mk a1 a2 = ⟨b1, b2⟩)) w := by
  have u3 := Try.underlying3
  have a3 := Try.isAgg3
  have z3 := Try.sizeOf3
  rw [show (10000 : Nat) = 9999 + 1 from rfl, run_equalIn_agg w 9999 _ _ _ pfStruct pfHeld]
  simp only [Program.fieldsOf, Try.underlying33]
  go_simp
  by_cases h1 : a1 = b1 <;> by_cases h2 : a2 = b2 <;> simp [h1, h2]
set_option maxHeartbeats 2000000 in
theorem specTD_any (xs : List En) (v : Value) (p1 p2 : Int) (w : World) (hs : Ens w v xs) :
    Calls Try.prog 24 #[v, .agg #[.int .i64 p1, .int .i64 p2]] w (RetEnB (tdrop xs ⟨p1, p2⟩) (tdropB xs ⟨p1, p2⟩) w) := by
  obtain ⟨a, cap, rfl, hlc, hcm, -⟩ := id hs
  unfold maxLen at hcm
  generalize hn : xs.length = n at *
  have HN := Lib.hid hn
  clear hn
  cases hv : tvalid xs
  · have HT := Lib.hid (show tdrop xs ⟨p1, p2⟩ = [] by simp [tdrop, hv])
    have HT2 := Lib.hid (show tdropB xs ⟨p1, p2⟩ = false by simp [tdropB, hv])
    rw [HT.out, HT2.out]
    go_enter Try.func24, Try.ntmps24
    
    go_wp2_with fail; refine (specTV_b (hs.below (by (repeat' (first | with_reducible exact Below.refl _ _ | with_reducible assumption | with_reducible refine Below.setCell ?_ ?_ _ | with_reducible refine Below.alloc ?_ ?_ _ | with_reducible refine Below.drew ?_ | with_reducible refine belDrewN ?_ _ | with_reducible refine Below.trans ?_ (Below.mono (by assumption) ?_) | omega | (simp; omega) | (simp; done))))) hv).mono ?_; rintro e w1 ⟨rfl, hb1⟩; obtain ⟨hc1, hf1⟩ := bcell hb1; have hz1 := hb1.size; (try simp at hz1); (try have hz1_w_0 : w.heap.size < w1.heap.size := (by omega)); (try have hz1_w_1 : w.heap.size + 1 < w1.heap.size := (by omega)); (try have hz1_w_2 : w.heap.size + 2 < w1.heap.size := (by omega)); have ho1 := OwnSl.kept (show OwnEn w.heap.size _ _ [] by simpa using! World.ownsRow_made (w.alloc (.cells #[.int .i64 p1, .int .i64 p2] 33)) #[] 0 (show w.heap.size ≤ _ by simp) (by simp) (by simp)) hb1
    have HO := Lib.hid ho1
    clear ho1
    go_wp2
    go_ret2
    exact ⟨_, rfl, HO.out, by (repeat' (first | with_reducible exact Below.refl _ _ | with_reducible assumption | with_reducible refine Below.setCell ?_ ?_ _ | with_reducible refine Below.alloc ?_ ?_ _ | with_reducible refine Below.drew ?_ | with_reducible refine belDrewN ?_ _ | with_reducible refine Below.trans ?_ (Below.mono (by assumption) ?_) | omega | (simp; omega) | (simp; done)))⟩
  · have HT := Lib.hid (show tdrop xs ⟨p1, p2⟩ = tdropK xs ⟨p1, p2⟩ n by simp [tdrop, hv, HN.out])
    have HT2 := Lib.hid (show tdropB xs ⟨p1, p2⟩ = decide ((tdropK xs ⟨p1, p2⟩ n).length < n) by simp [tdropB, hv, HN.out])
    rw [HT.out, HT2.out]
    have h30 := ((tvalid_iff xs).1 hv).1
    rw [HN.out] at h30
    obtain ⟨i0, hi, hz0, hz1, hz2⟩ := info_parts infoEn
    have hp := pfGuard
    go_enter Try.func24, Try.ntmps24
    go_wp2_with fail
    refine (specTV_b (hs.below (by (repeat' (first | with_reducible exact Below.refl _ _ | with_reducible assumption | with_reducible refine Below.setCell ?_ ?_ _ | with_reducible refine Below.alloc ?_ ?_ _ | with_reducible refine Below.drew ?_ | with_reducible refine belDrewN ?_ _ | with_reducible refine Below.trans ?_ (Below.mono (by assumption) ?_) | omega | (simp; omega) | (simp; done))))) hv).mono ?_
    rintro e w1 ⟨rfl, hb1⟩
    have hzz1 := hb1.size; simp at hzz1
    have ho1 := OwnSl.kept (show OwnEn (w.heap.size + 1) _ _ [] by simpa using! World.ownsRow_made (w.alloc (.cells #[.int .i64 p1, .int .i64 p2] 33)) #[] 0 (show w.heap.size + 1 ≤ _ by simp) (by simp) (by simp)) hb1
    have HO1 := Lib.hid ho1
    have hb1' : Below (w.heap.size + 1) (w.alloc (.cells #[.int .i64 p1, .int .i64 p2] 33)) w1 := ((Below.refl _ _).alloc (by simp) _).trans (hb1.mono (by simp))
    clear ho1 hb1
    go_wp2_with fail
    go_loopw [6, 7] (fun v i wr => ∃ k : Nat, k ≤ n ∧ i = .int .i64 k ∧ OwnEn (w.heap.size + 1) wr v (tdropK xs ⟨p1, p2⟩ k) ∧ Below (w.heap.size + 1) (w.alloc (.cells #[.int .i64 p1, .int .i64 p2] 33)) wr) (fun _ i _ => n - (intOf i).toNat)
    case atStart => exact ⟨0, by omega, rfl, HO1.out, hb1'⟩
    case round =>
      obtain ⟨k, hk, rfl, hown, hbr⟩ := hrel
      have HO := Lib.hid hown; clear hown HO1 hb1'
      have hb3 : Below w.heap.size w wr := ((Below.refl _ _).alloc (Nat.le_refl _) _).trans (hbr.mono (by omega))
      have hs2 := Lib.hid (hs.below hb3)
      have hzr := hbr.size; simp at hzr
      have kb := belCells hbr w.heap.size (by omega)
      have b0 := kb 0; have b1 := kb 1
      simp at b0 b1
      clear kb
      have hlen := tdropK_len xs ⟨p1, p2⟩ k
      by_cases hlt : k < n
      · obtain ⟨b, o, f1, f2, f3, rfl, hbl, hx, c0, c1, c2⟩ := hs2.out.at (show k < xs.length by rw [HN.out]; exact hlt)
        have HX := Lib.hid hx; clear hx
        have i1 : (k : Int) < (n : Int) := by omega
        have i2 : (0 : Int) ≤ (k : Int) := by omega
        have hq := pf_equal f1 f2 p1 p2
        by_cases he : Pf.mk f1 f2 = ⟨p1, p2⟩
        · have HS := Lib.hid (tdropK_drop HX.out he)
          rw [decide_eq_true he] at hq
          clear he
          go_wp2_with fail
          refine wp_region_over (by kernel_rfl) (by kernel_rfl) (fun ov => ?_); have ov0 := fun x => ov x (b) (by (try simp) <;> omega); have ov1 := fun x => ov x (w.heap.size) (by (try simp) <;> omega); clear ov; (repeat (go_big_quiet_step (first | fail))); refine wpQuiet_nil ?_; intro w9 hw9; have hb_w9 := below_over hw9; clear hw9 ov0 ov1
          go_wp2
          go_roundw
          case rel => exact ⟨k + 1, by omega, by go_num, by rw [HS.out]; exact OwnSl.kept HO.out hb_w9, hbr.trans (hb_w9.mono (by omega))⟩
          case measure => simp [intOf]; omega
        · have HS := Lib.hid (tdropK_keep HX.out he)
          rw [decide_eq_false he] at hq
          clear he
          go_wp2_with fail
          refine wp_region_over (by kernel_rfl) (by kernel_rfl) (fun ov => ?_); have ov0 := fun x => ov x (b) (by (try simp) <;> omega); have ov1 := fun x => ov x (w.heap.size) (by (try simp) <;> omega); clear ov; (repeat (go_big_quiet_step (first | fail))); refine wpQuiet_nil ?_; intro w9 hw9; have hb_w9 := below_over hw9; clear hw9 ov0 ov1
          have hw9 : Below (w.heap.size + 1) (w.alloc (.cells #[.int .i64 p1, .int .i64 p2] 33)) w9 := hbr.trans (hb_w9.mono (by omega))
          have hz9 := hb_w9.size
          have kb := ownCells hb_w9 b (by omega)
          have HB9 := Lib.hid hb_w9
          clear hb_w9
          go_wp2_with (at_builtin; refine wpList_append_own _ rfl _ _ 25 rfl (w.heap.size + 1) 35 i0 _ 3 24 Try.underlying25 hi hz0 hz1 hz2 rfl (by decide) _ _ _ rfl (World.ownsRow.alloc (OwnSl.kept HO.out HB9.out) _) ⟨w9.heap.size, 0, none⟩ 1 1 (En.enc ⟨⟨f1, f2⟩, f3⟩) rfl rfl ?c1 ?c2 ?c3 ?c4 ?c5 ?_)
          case c1 => exact cellsNew w9 (En.enc ⟨⟨f1, f2⟩, f3⟩) _
          case c2 => simp [Value.oneCell']
          case c3 => simp only [maxLen]; omega
          case c4 => omega
          case c5 => simp; omega
          intro v' w4 hown4 hgrow4 _
          have hB := belGrown (hw9.alloc (by omega) _) (World.ownsRow.alloc (OwnSl.kept HO.out HB9.out) _) hgrow4 (by simp; omega)
          have HO4 := Lib.hid (OwnSl.pushed rfl hown4)
          clear hown4 hgrow4
          go_wp2
          go_roundw
          case rel => exact ⟨k + 1, by omega, by go_num, by rw [HS.out]; exact HO4.out, hB⟩
          case measure => simp [intOf]; omega
      · have HE := Lib.hid (show k = n by omega)
        have HM := Lib.hid (OwnSl.mono (base' := w.heap.size) HO.out (by omega))
        obtain ⟨sa', cap', hve, -, hcm', -⟩ := OwnEn.ens HO.out
        unfold maxLen at hcm'
        subst hve
        generalize hq : (tdropK xs ⟨p1, p2⟩ k).length = q at *
        have HQ := Lib.hid hq
        clear hq
        go_wp2
        go_ret2
        refine ⟨_, ?_, by rw [← HE.out]; exact HM.out, hb3⟩
        rw [← HE.out, HQ.out, HE.out]
        simp
end Go.Proofs.Ytfnfpekjjmejnaa
