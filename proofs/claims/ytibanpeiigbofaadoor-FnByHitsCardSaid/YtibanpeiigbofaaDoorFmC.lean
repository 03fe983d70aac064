/- Walks on sets and boxes, second part. -/
import Derived.Test.YtibanpeiigbofaaDoorFmA
namespace Go.Proofs.YtibanpeiigbofaaDoor
open Go.RowKit
def Spz (w : World) (v : Value) (xs : List Sp) : Prop := SlAt 2 Sp.enc w v xs
theorem Spz.below {w w' : World} {v : Value} {xs : List Sp} (h : Spz w v xs) (hb : Below w.heap.size w w') : Spz w' v xs := SlAt.below h hb
theorem Sps.z {lo : Nat} {w : World} {v : Value} {xs : List Sp} (h : Sps lo w v xs) : Spz w v xs := SlFr.at h
theorem Spz.s {w : World} {v : Value} {xs : List Sp} (h : Spz w v xs) : Sps 0 w v xs := SlFr.of h
theorem Spz.at {w : World} {a : Option Addr} {n cap : Nat} {xs : List Sp} (h : Spz w (.slice a n cap) xs) {k : Nat} (hk : k < xs.length) :
    ∃ b o f1 f2, a = some ⟨b, o, none⟩ ∧ b < w.heap.size ∧ xs[k]? = some ⟨f1, f2⟩ ∧ w.cell? ⟨b, o + k * 2, none⟩ = some (.int .i64 f1) ∧ w.cell? ⟨b, o + k * 2 + 1, none⟩ = some (.int .i64 f2) := Sps.at h.s hk
theorem OwnSp.z {base : Nat} {w : World} {v : Value} {ys : List Sp} (h : OwnSp base w v ys) : Spz w v ys := OwnSl.at (sz := 2) (enc := Sp.enc) (fun _ => rfl) h
theorem Sp_eqd (a b c d : Int) : decide ((⟨a, b⟩ : Sp) = ⟨c, d⟩) = (decide (a = c) && decide (b = d)) := by
  by_cases h1 : a = c <;> by_cases h2 : b = d <;> simp [h1, h2]
set_option maxHeartbeats 400000 in
theorem eqSpan_b {f1 f2 g1 g2 : Int} {r : Bool} (h : decide ((⟨f1, f2⟩ : Sp) = ⟨g1, g2⟩) = r) (w : World) :
    Calls Tryd.prog 182 #[.agg #[.int .i64 f1, .int .i64 f2], .agg #[.int .i64 g1, .int .i64 g2]] w fun e w' => e = .returned (.bool r) ∧ Below w.heap.size w w' := by
  subst h
  go_enter Tryd.func182, Tryd.ntmps182
  go_wp2
  all_goals (go_ret; refine ⟨ret_bool ?_, by (repeat' (first | with_reducible exact Below.refl _ _ | with_reducible assumption | with_reducible refine Below.setCell ?_ ?_ _ | with_reducible refine Below.alloc ?_ ?_ _ | with_reducible refine Below.drew ?_ | with_reducible refine belDrewN ?_ _ | with_reducible refine Below.trans ?_ (Below.mono (by assumption) ?_) | omega | (simp; omega) | (simp; done)))⟩)
  all_goals (by_cases e1 : f1 = g1 <;> by_cases e2 : f2 = g2 <;> simp_all)
set_option maxHeartbeats 400000 in
theorem toSpan_any (a b : Int) (w : World) :
    Calls Tryd.prog 190 #[.agg #[.int .i64 a, .int .i64 b]] w fun e w' => e = .returned (.agg #[.int .i64 a, .int .i64 b]) ∧ Below w.heap.size w w' := by
  go_enter Tryd.func190, Tryd.ntmps190
  go_wp2
  exact bodyPost_ret (v := .agg #[.int .i64 a, .int .i64 b]) (by simp [results, Tryd.results190, go_sem]) rfl ⟨rfl, by (repeat' (first | with_reducible exact Below.refl _ _ | with_reducible assumption | with_reducible refine Below.setCell ?_ ?_ _ | with_reducible refine Below.alloc ?_ ?_ _ | with_reducible refine Below.drew ?_ | with_reducible refine belDrewN ?_ _ | with_reducible refine Below.trans ?_ (Below.mono (by assumption) ?_) | omega | (simp; omega) | (simp; done)))⟩
def SpmarkAt (k : Nat) (i : Nat) : Sp := ⟨((k + 2 * i + 0 : Nat) : Int), ((k + 2 * i + 1 : Nat) : Int)⟩
def Spmarks (k n : Nat) : List Sp := (List.range n).map (SpmarkAt k)
theorem Spmarks_get {k n i : Nat} (h : i < n) : (Spmarks k n)[i]? = some (SpmarkAt k i) := by simp [Spmarks, h]
set_option maxHeartbeats 1000000 in
theorem toSpanS_any (xs : List Sp) (v : Value) (w : World) (hs : Spz w v xs) (hn : xs.length ≤ 1048576) : Calls Tryd.prog 181 #[v] w (RetSp xs w) := by
  obtain ⟨a, cap, rfl, hlc, hcm, -⟩ := id hs
  unfold maxLen at hcm
  obtain ⟨i0, hi, hz0, hz1, hz2⟩ := info_parts infoSp
  go_enter Tryd.func181, Tryd.ntmps181
  go_wp2_with (at_make; refine wpList_make_full _ rfl _ _ 126 rfl w.heap.size 125 i0 _ 2 Tryd.underlying126 hi hz0 hz1 _ _ _ _ xs.length rfl rfl rfl rfl ?b1 ?b2 ?b3 ?_)
  case b1 => rw [hz2]; omega
  case b2 => simp only [maxLen]; omega
  case b3 => omega
  intro w1 hown1 hgrow1
  have hb1 : Below w.heap.size w w1 := (Below.refl _ _).grown hgrow1 (Nat.le_refl _) (fun k hk => by cases hk)
  have HO1 := Lib.hid (show OwnSp w.heap.size w1 (.slice (some ⟨w.heap.size, 0, none⟩) xs.length xs.length) (List.replicate xs.length (⟨0, 0⟩ : Sp)) by unfold OwnSp OwnSl; rw [List.length_replicate, ← madeFlat (sz := 2) (enc := Sp.enc) (fun _ => rfl) (by omega) (.agg #[.int .i64 0, .int .i64 0]) ⟨0, 0⟩ rfl]; exact hown1)
  clear hown1 hgrow1
  go_wp2_with fail
  go_loopw [4] (fun i wr => ∃ k : Nat, k ≤ xs.length ∧ i = .int .i64 k ∧ OwnSp w.heap.size wr (.slice (some ⟨w.heap.size, 0, none⟩) xs.length xs.length) (xs.take k ++ List.replicate (xs.length - k) (⟨0, 0⟩ : Sp)) ∧ Below w.heap.size w wr) (fun i _ => xs.length - (intOf i).toNat)
  case atStart => exact ⟨0, by omega, rfl, by simpa using HO1.out, hb1⟩
  case round =>
    obtain ⟨k, hk, rfl, hown, hbr⟩ := hrel
    have HO := Lib.hid hown; clear hown HO1 hb1
    have hs2 := Lib.hid (hs.below hbr)
    have hzr := hbr.size
    by_cases hlt : k < xs.length
    · obtain ⟨b, o, f1, f2, rfl, hbl, hx, c0, c1⟩ := hs2.out.at hlt
      have HX := Lib.hid hx; clear hx
      have hgb : w.heap.size < wr.heap.size := by
        rcases OwnSl.form HO.out with ⟨h, _⟩ | ⟨g, cp, h, _, h2, _⟩
        · cases h
        · obtain ⟨h3, _, _⟩ := Value.slice.inj h; cases h3; exact h2
      go_wp2_with fail
      refine (toSpan_any _ _ _).mono ?_
      rintro e w2 ⟨rfl, hb2⟩
      have HO2 := Lib.hid (OwnSl.kept HO.out hb2)
      have hz2' := hb2.size
      have hlen : (xs.take k ++ List.replicate (xs.length - k) (⟨0, 0⟩ : Sp)).length = xs.length := by simp; omega
      have HL := Lib.hid hlen; clear hlen
      obtain ⟨hst, hgr⟩ := OwnSl.store (sz := 2) (enc := Sp.enc) (fun _ => rfl) HL.out.symm HO2.out (k := k) (by rw [HL.out]; exact hlt) (⟨f1, f2⟩ : Sp)
      have HST := Lib.hid hst; have HGR := Lib.hid hgr; clear hst hgr
      have hfz : ∀ j, w2.frozen? ⟨w.heap.size, j, none⟩ = false := OwnSl.frz HO2.out
      have hcz := OwnSl.cell (sz := 2) (enc := Sp.enc) (fun _ => rfl) HO2.out (k := k) (y := (⟨0, 0⟩ : Sp)) (by rw [List.getElem?_append_right (List.length_take_le _ _), List.length_take, Nat.min_eq_left hk, Nat.sub_self, List.getElem?_replicate, if_pos (by omega)])
      have d0 := hcz 0 _ rfl; have d1 := hcz 1 _ rfl
      simp only [Nat.add_zero] at d0
      clear hcz c0 c1
      go_wp2
      go_roundw
      case rel =>
        refine ⟨k + 1, by omega, by go_num, ?_, ?_⟩
        · have e1 : (xs.take k ++ List.replicate (xs.length - k) (⟨0, 0⟩ : Sp)).set k ⟨f1, f2⟩ = xs.take (k + 1) ++ List.replicate (xs.length - (k + 1)) ⟨0, 0⟩ := by
            rw [List.set_append_right _ _ (by simp; omega), List.take_add_one, HX.out, List.append_assoc]
            refine congrArg (xs.take k ++ ·) ?_
            rw [show xs.length - k = (xs.length - (k + 1)) + 1 from by omega, List.replicate_succ, List.length_take, Nat.min_eq_left hk]
            simp
          rw [← e1]
          exact HST.out
        · exact (hbr.trans (hb2.mono (by omega))).grown HGR.out (by omega) (fun k hk => by cases hk; omega)
      case measure => simp [intOf]; omega
    · have HE := Lib.hid (show k = xs.length by omega)
      go_wp2
      go_ret
      refine ⟨_, rfl, ?_, hbr⟩
      have := HO.out
      rw [HE.out] at this
      simpa using this
set_option maxHeartbeats 400000 in
theorem szSpanS_any (a : Option Addr) (n cap : Nat) (l : Int) (hn : (n : Int) ≤ 9223372036854775807) (h0 : 0 ≤ l) (h1 : l ≤ 9223372036854775807) (w : World) : Calls Tryd.prog 180 #[.slice a n cap, .int .i64 l] w fun e w' => e = .returned (.int .i64 (if l < n then -1 else l - n)) ∧ w = w' := by
  by_cases h : l < n
  · rw [if_pos h]
    go_enter Tryd.func180, Tryd.ntmps180
    go_wp2
    go_ret
    exact ⟨rfl, rfl⟩
  · rw [if_neg h]
    go_enter Tryd.func180, Tryd.ntmps180
    go_wp2
    go_ret
    exact ⟨rfl, rfl⟩
set_option maxHeartbeats 1000000 in
theorem eqSpanS_any (xs ys : List Sp) (v u : Value) (w : World) (hs : Spz w v xs) (hu : Spz w u ys) : Calls Tryd.prog 166 #[v, u] w fun e w' => e = .returned (.bool (decide (xs = ys))) ∧ Below w.heap.size w w' := by
  obtain ⟨a, cap, rfl, hlc, hcm, -⟩ := id hs
  obtain ⟨a', cap', rfl, hlc', hcm', -⟩ := id hu
  unfold maxLen at hcm hcm'
  by_cases hne : xs.length = ys.length
  · have HN := Lib.hid hne; clear hne
    obtain ⟨m, hm⟩ : ∃ m, ys.length = m := ⟨_, rfl⟩
    have hm2 : m = xs.length := by rw [← hm]; exact HN.out.symm
    rw [hm, hm2]
    have HM := Lib.hid hm; have HM2 := Lib.hid hm2; clear hm hm2
    go_enter Tryd.func166, Tryd.ntmps166
    go_wp2_with fail
    go_loopw [5] (fun i wr => ∃ k : Nat, k ≤ xs.length ∧ i = .int .i64 k ∧ xs.take k = ys.take k ∧ Below w.heap.size w wr) (fun i _ => xs.length - (intOf i).toNat)
    case atStart => exact ⟨0, by omega, rfl, rfl, by (repeat' (first | with_reducible exact Below.refl _ _ | with_reducible assumption | with_reducible refine Below.setCell ?_ ?_ _ | with_reducible refine Below.alloc ?_ ?_ _ | with_reducible refine Below.drew ?_ | with_reducible refine belDrewN ?_ _ | with_reducible refine Below.trans ?_ (Below.mono (by assumption) ?_) | omega | (simp; omega) | (simp; done)))⟩
    case round =>
      obtain ⟨k, hk, rfl, hq, hbr⟩ := hrel
      have HQ := Lib.hid hq; clear hq
      have hs2 := Lib.hid (hs.below hbr); have hu2 := Lib.hid (hu.below hbr)
      have hzr := hbr.size
      by_cases hlt : k < xs.length
      · have hu3 := hu2.out; rw [HM.out, HM2.out] at hu3
        obtain ⟨b, o, f1, f2, rfl, hbl, hx, c0, c1⟩ := hs2.out.at hlt
        obtain ⟨b', o', g1, g2, rfl, hbl', hy, d0, d1⟩ := hu3.at (show k < ys.length by rw [HM.out, HM2.out]; exact hlt)
        have HX := Lib.hid hx; have HY := Lib.hid hy; clear hx hy hu3
        have i1 : (k : Int) < (xs.length : Int) := by omega
        by_cases he : (⟨f1, f2⟩ : Sp) = ⟨g1, g2⟩
        · have HE := Lib.hid he; clear he
          go_wp2_with fail
          refine wp_region_over (by kernel_rfl) (by kernel_rfl) (fun ov => ?_); have ov0 := fun x => ov x (b) (by (try simp) <;> omega); have ov1 := fun x => ov x (b') (by (try simp) <;> omega); clear ov; (repeat (go_big_quiet_step (first | (go_at_call 182; exact callsOver (eqSpan_b (decide_eq_true HE.out) _))))); refine wpQuiet_nil ?_; intro w9 hw9; have hb_w9 := below_over hw9; clear hw9 ov0 ov1
          go_wp2
          go_roundw
          case rel => exact ⟨k + 1, by omega, by go_num, by rw [List.take_add_one, List.take_add_one, HQ.out, HX.out, HY.out, HE.out], by (repeat' (first | with_reducible exact Below.refl _ _ | with_reducible assumption | with_reducible refine Below.setCell ?_ ?_ _ | with_reducible refine Below.alloc ?_ ?_ _ | with_reducible refine Below.drew ?_ | with_reducible refine belDrewN ?_ _ | with_reducible refine Below.trans ?_ (Below.mono (by assumption) ?_) | omega | (simp; omega) | (simp; done)))⟩
          case measure => simp [intOf]; omega
        · have HE := Lib.hid he; clear he
          go_wp2_with fail
          refine wp_region_over (by kernel_rfl) (by kernel_rfl) (fun ov => ?_); have ov0 := fun x => ov x (b) (by (try simp) <;> omega); have ov1 := fun x => ov x (b') (by (try simp) <;> omega); clear ov; (repeat (go_big_quiet_step (first | (go_at_call 182; exact callsOver (eqSpan_b (decide_eq_false HE.out) _))))); refine wpQuiet_nil ?_; intro w9 hw9; have hb_w9 := below_over hw9; clear hw9 ov0 ov1
          go_wp2
          go_ret
          exact ⟨ret_bool (decide_eq_false (fun h => HE.out (by have h1 := HX.out; have h2 := HY.out; rw [h, h2] at h1; exact (Option.some.inj h1).symm))).symm, by (repeat' (first | with_reducible exact Below.refl _ _ | with_reducible assumption | with_reducible refine Below.setCell ?_ ?_ _ | with_reducible refine Below.alloc ?_ ?_ _ | with_reducible refine Below.drew ?_ | with_reducible refine belDrewN ?_ _ | with_reducible refine Below.trans ?_ (Below.mono (by assumption) ?_) | omega | (simp; omega) | (simp; done)))⟩
      · have HE := Lib.hid (show k = xs.length by omega)
        go_wp2
        go_ret
        exact ⟨ret_bool (decide_eq_true (by have := HQ.out; rw [HE.out, List.take_length, ← HM2.out, ← HM.out, List.take_length] at this; exact this)).symm, by (repeat' (first | with_reducible exact Below.refl _ _ | with_reducible assumption | with_reducible refine Below.setCell ?_ ?_ _ | with_reducible refine Below.alloc ?_ ?_ _ | with_reducible refine Below.drew ?_ | with_reducible refine belDrewN ?_ _ | with_reducible refine Below.trans ?_ (Below.mono (by assumption) ?_) | omega | (simp; omega) | (simp; done)))⟩
  · have HN := Lib.hid (decide_eq_false (fun h : xs = ys => hne (by rw [h])))
    have hb : ((xs.length : Int) == (ys.length : Int)) = false := by simpa using (by omega : (xs.length : Int) ≠ ys.length)
    clear hne
    go_enter Tryd.func166, Tryd.ntmps166
    go_wp2
    go_ret
    exact ⟨ret_bool HN.out.symm, by (repeat' (first | with_reducible exact Below.refl _ _ | with_reducible assumption | with_reducible refine Below.setCell ?_ ?_ _ | with_reducible refine Below.alloc ?_ ?_ _ | with_reducible refine Below.drew ?_ | with_reducible refine belDrewN ?_ _ | with_reducible refine Below.trans ?_ (Below.mono (by assumption) ?_) | omega | (simp; omega) | (simp; done)))⟩
theorem eqSpanS_b {xs ys : List Sp} {v u : Value} {w : World} {r : Bool} (hs : Spz w v xs) (hu : Spz w u ys) (h : decide (xs = ys) = r) : Calls Tryd.prog 166 #[v, u] w fun e w' => e = .returned (.bool r) ∧ Below w.heap.size w w' := by
  subst h
  exact eqSpanS_any xs ys v u w hs hu
set_option maxHeartbeats 2000000 in
theorem markSpanS_any (base : Nat) (xs : List Sp) (v : Value) (m : Nat) (w : World) (ho : OwnSp base w v xs) (hn : xs.length ≤ 1048576) (hm : m ≤ 8388608) : Calls Tryd.prog 137 #[v, .int .i64 (m : Int)] w fun e w' => e = .returned (.int .i64 ((m + 2 * xs.length : Nat) : Int)) ∧ OwnSp base w' v (Spmarks m xs.length) ∧ w.grownBy w' v.ownBlock := by
  rcases OwnSl.form ho with ⟨rfl, rfl⟩ | ⟨g, cap, rfl, hg, hgs, hlc, hcm, -⟩
  · go_enter Tryd.func137, Tryd.ntmps137
    go_wp2_with fail
    go_loopw [1, 5] (fun q i wr => q = .int .i64 (m : Int) ∧ i = .int .i64 0 ∧ wr = w) (fun _ _ _ => 0)
    case atStart => exact ⟨rfl, rfl, rfl⟩
    case round =>
      obtain ⟨rfl, rfl, rfl⟩ := hrel
      go_wp2
      go_ret
      exact ⟨rfl, ho, World.grownBy.refl _ _⟩
  · unfold maxLen at hcm
    go_enter Tryd.func137, Tryd.ntmps137
    go_wp2_with fail
    go_loopw [1, 5] (fun q i wr => ∃ k : Nat, k ≤ xs.length ∧ i = .int .i64 k ∧ q = .int .i64 ((m + 2 * k : Nat) : Int) ∧ OwnSp base wr (.slice (some ⟨g, 0, none⟩) xs.length cap) (Spmarks m k ++ xs.drop k) ∧ w.grownBy wr (some g)) (fun _ i _ => xs.length - (intOf i).toNat)
    case atStart => exact ⟨0, by omega, rfl, rfl, by simpa [Spmarks] using ho, World.grownBy.refl _ _⟩
    case round =>
      obtain ⟨k, hk, rfl, rfl, hown, hgr⟩ := hrel
      have HO := Lib.hid hown; have HG := Lib.hid hgr; clear hown hgr
      have hgb := HG.out.size
      by_cases hlt : k < xs.length
      · have HL := Lib.hid (show (Spmarks m k ++ xs.drop k).length = xs.length by simp [Spmarks]; omega)
        obtain ⟨f1, f2, hx⟩ : ∃ f1 f2, xs[k]? = some (⟨f1, f2⟩ : Sp) := ⟨_, _, List.getElem?_eq_getElem hlt⟩
        have HX := Lib.hid hx; clear hx
        obtain ⟨hst, hgr⟩ := OwnSl.store (sz := 2) (enc := Sp.enc) (fun _ => rfl) HL.out.symm HO.out (k := k) (by rw [HL.out]; exact hlt) (SpmarkAt m k)
        have HST := Lib.hid hst; have HGR := Lib.hid hgr; clear hst hgr
        have hfz : ∀ j, wr.frozen? ⟨g, j, none⟩ = false := OwnSl.frz HO.out
        have hcz := OwnSl.cell (sz := 2) (enc := Sp.enc) (fun _ => rfl) HO.out (k := k) (y := (⟨f1, f2⟩ : Sp)) (by rw [List.getElem?_append_right (by simp [Spmarks])]; simp [Spmarks]; exact HX.out)
        have d0 := hcz 0 _ rfl; have d1 := hcz 1 _ rfl
        simp only [Nat.add_zero] at d0
        clear hcz
        go_wp2
        go_roundw
        case rel =>
          refine ⟨k + 1, by omega, by go_num, by go_num, ?_, ?_⟩
          · have e1 : (Spmarks m k ++ xs.drop k).set k (SpmarkAt m k) = Spmarks m (k + 1) ++ xs.drop (k + 1) := by
              have e0 : (xs.drop k).set 0 (SpmarkAt m k) = SpmarkAt m k :: xs.drop (k + 1) := by rw [List.drop_eq_getElem_cons hlt, List.set_cons_zero]
              rw [List.set_append_right _ _ (by simp [Spmarks])]
              simp [Spmarks, List.range_succ, e0]
            rw [← e1]
            have e2 := HST.out
            simp only [wSet, SpmarkAt] at e2
            refine cast ?_ e2
            first | rfl | (congr 1 <;> (repeat (first | rfl | omega | congr 1)))
          · have e2 := HGR.out
            simp only [wSet, SpmarkAt] at e2
            refine ⟨?_, ?_, ?_, ?_, ?_⟩
            · exact HG.out.os
            · exact HG.out.tape
            · exact HG.out.output
            · simp; omega
            · intro q hq hne
              have hne' : q ≠ g := fun e => hne (by rw [e])
              simp [Below.heap_setCell, hne']
              exact HG.out.block q hq hne
        case measure => simp [intOf]; omega
      · have HE := Lib.hid (show k = xs.length by omega)
        go_wp2
        go_ret
        refine ⟨ret_int (by rw [HE.out]), ?_, HG.out⟩
        have := HO.out
        rw [HE.out, List.drop_length, List.append_nil] at this
        exact this
set_option maxHeartbeats 1000000 in
theorem heldSpanS_any (n : Nat) (v : Value) (m : Nat) (w : World) (hs : Spz w v (Spmarks m n)) (hn : n ≤ 1048576) (hm : m ≤ 8388608) : Calls Tryd.prog 138 #[v, .int .i64 (m : Int)] w fun e w' => e = .returned (.int .i64 ((m + 2 * n : Nat) : Int)) ∧ w = w' := by
  obtain ⟨a, cap, rfl, hlc, hcm, -⟩ := id hs
  have hl : (Spmarks m n).length = n := by simp [Spmarks]
  rw [hl] at hs hlc ⊢
  have HL := Lib.hid hl; clear hl
  unfold maxLen at hcm
  go_enter Tryd.func138, Tryd.ntmps138
  go_wp2_with fail
  go_loop [1, 5] (fun q i => ∃ k : Nat, k ≤ n ∧ i = .int .i64 k ∧ q = .int .i64 ((m + 2 * k : Nat) : Int)) (fun _ i => n - (intOf i).toNat)
  case atStart => exact ⟨0, by omega, rfl, rfl⟩
  case round =>
    obtain ⟨k, hk, rfl, rfl⟩ := hrel
    by_cases hlt : k < n
    · obtain ⟨b, o, f1, f2, rfl, hbl, hx, c0, c1⟩ := hs.at (show k < (Spmarks m n).length by rw [HL.out]; exact hlt)
      rw [Spmarks_get hlt] at hx
      cases hx
      go_wp2
      all_goals first | (exfalso; omega) | skip
      go_round
      case rel => exact ⟨k + 1, by omega, by go_num, by go_num⟩
      case measure => simp [intOf]; omega
    · have HE := Lib.hid (show k = n by omega)
      go_wp2
      go_ret
      exact ⟨ret_int (by rw [HE.out]), rfl⟩
def sumTo {α : Type} (f : α → Nat) (l : List α) (k : Nat) : Nat := ((l.take k).map f).sum
theorem sumTo_zero {α : Type} (f : α → Nat) (l : List α) : sumTo f l 0 = 0 := by simp [sumTo]
theorem sumTo_succ {α : Type} {f : α → Nat} {l : List α} {k : Nat} {x : α} (hx : l[k]? = some x) : sumTo f l (k + 1) = sumTo f l k + f x := by
  unfold sumTo
  rw [List.take_add_one, hx, List.map_append, List.sum_append]
  simp
theorem sumTo_le {α : Type} (f : α → Nat) (l : List α) : ∀ k d, sumTo f l k ≤ sumTo f l (k + d)
  | k, 0 => Nat.le_refl _
  | k, d + 1 => by
    refine Nat.le_trans (sumTo_le f l k d) ?_
    rw [show k + (d + 1) = (k + d) + 1 from rfl]
    cases hx : l[k + d]? with
    | none =>
      unfold sumTo
      have := List.getElem?_eq_none_iff.1 hx
      rw [List.take_of_length_le this, List.take_of_length_le (by omega)]
      exact Nat.le_refl _
    | some x => rw [sumTo_succ hx]; omega
def bxN (b : Bx) : Nat := b.length + sumTo List.length b b.length
def ftN (fs : List Ft) : Nat := fs.length + sumTo (fun f => bxN f.box) fs fs.length
def szOf (l : Int) (n : Nat) : Int := if l < n then -1 else l - n
set_option maxHeartbeats 1000000 in
theorem szSpanSS_any {lo : Nat} (b : Bx) (v : Value) (l : Int) (w : World) (hs : Rws lo w v b) (h0 : 0 ≤ l) (h1 : l ≤ 1048576) :
    Calls Tryd.prog 164 #[v, .int .i64 l] w fun e w' => e = .returned (.int .i64 (szOf l (bxN b))) ∧ w = w' := by
  obtain ⟨a, cap, rfl, hlc, hcm⟩ := hs.form
  have hb : bxN b = b.length + sumTo List.length b b.length := rfl
  unfold maxLen at hcm
  generalize hn : b.length = n at *
  have HN := Lib.hid hn
  clear hn
  by_cases hl : l < n
  · have HE := Lib.hid (show szOf l (bxN b) = -1 by unfold szOf; rw [if_pos (by omega)])
    clear hb
    go_enter Tryd.func164, Tryd.ntmps164
    go_wp2
    go_ret
    exact ⟨ret_int HE.out.symm, rfl⟩
  · have HB := Lib.hid hb
    clear hb
    go_enter Tryd.func164, Tryd.ntmps164
    go_wp2_with fail
    go_loopw [1, 5] (fun x i wr => ∃ k : Nat, k ≤ n ∧ i = .int .i64 k ∧ x = .int .i64 (l - n - (sumTo List.length b k : Nat)) ∧ (n : Int) + (sumTo List.length b k : Nat) ≤ l ∧ wr = w) (fun _ i _ => n - (intOf i).toNat)
    case atStart => exact ⟨0, by omega, rfl, by rw [sumTo_zero]; simp, by rw [sumTo_zero]; simp; omega, rfl⟩
    case round =>
      obtain ⟨k, hk, rfl, rfl, hle, rfl⟩ := hrel
      by_cases hlt : k < n
      · have i1 : (k : Int) < (n : Int) := by omega
        have i2 : (0 : Int) ≤ (k : Int) := by omega
        obtain ⟨xs, hx⟩ : ∃ xs, b[k]? = some xs := ⟨_, List.getElem?_eq_getElem (by rw [HN.out]; exact hlt)⟩
        obtain ⟨b', o, sv, rfl, hbl, c0, hsv⟩ := hs.at hx
        obtain ⟨sa, scap, rfl, hsl, hsm⟩ := hsv.form
        unfold maxLen at hsm
        have hsu := sumTo_succ (f := List.length) hx
        have hle2 := sumTo_le List.length b (k + 1) (n - (k + 1))
        rw [show k + 1 + (n - (k + 1)) = n by omega] at hle2
        clear hsv hx
        generalize hsk : sumTo List.length b k = s at *
        generalize hxl : xs.length = q at *
        have HSU := Lib.hid hsu
        have HL2 := Lib.hid hle2
        clear hsk hxl hsu hle2
        obtain ⟨z, hz⟩ : ∃ z : Int, l - n - (s : Nat) = z := ⟨_, rfl⟩
        rw [hz]
        have hz0 : 0 ≤ z := by omega
        have hz1 : z ≤ 1048576 := by omega
        by_cases hq : z < q
        · have HE := Lib.hid (show szOf l (bxN b) = -1 by
            have h1 := HSU.out; have h2 := HL2.out; have h3 := HB.out
            unfold szOf; rw [if_pos (by omega)])
          go_wp2_with fail
          refine (szSpanS_any sa q scap z (by omega) hz0 (by omega) _).mono ?_
          rw [if_pos (by omega)]
          rintro e _ ⟨rfl, rfl⟩
          go_wp2
          go_ret
          exact ⟨ret_int HE.out.symm, rfl⟩
        · have hq' : ¬ (z - (q : Int) < 0) := by omega
          have HZ := Lib.hid hz
          clear hz
          go_wp2_with fail
          refine (szSpanS_any sa q scap z (by omega) hz0 (by omega) _).mono ?_
          rw [if_neg (by omega)]
          rintro e _ ⟨rfl, rfl⟩
          go_wp2
          go_roundw
          case rel => exact ⟨k + 1, by omega, by go_num, by rw [HSU.out]; congr 1; have := HZ.out; push_cast; omega, by rw [HSU.out]; have := HZ.out; push_cast; omega, trivial⟩
          case measure => simp [intOf]; omega
      · have hkn : k = n := by omega
        have HE := Lib.hid (show szOf l (bxN b) = l - n - (sumTo List.length b k : Nat) by
          have h3 := HB.out
          rw [← hkn] at h3 ⊢
          rw [← hkn] at hle
          unfold szOf; rw [if_neg (by omega), h3]; push_cast; omega)
        generalize sumTo List.length b k = s at *
        go_wp2
        go_ret
        exact ⟨ret_int HE.out.symm, rfl⟩
theorem szOf_cases (l : Int) (n : Nat) : (szOf l n = -1 ∧ l < n) ∨ (szOf l n = l - n ∧ (n : Int) ≤ l) := by
  unfold szOf
  by_cases h : l < n
  · exact .inl ⟨if_pos h, h⟩
  · exact .inr ⟨if_neg h, by omega⟩
set_option maxHeartbeats 1000000 in
theorem szBox_any {lo : Nat} (b : Bx) (v : Value) (l : Int) (w : World) (hs : Rws lo w v b) (h0 : 0 ≤ l) (h1 : l ≤ 1048576) :
    Calls Tryd.prog 132 #[.agg #[v], .int .i64 l] w fun e w' => e = .returned (.int .i64 (szOf l (bxN b))) ∧ Below w.heap.size w w' := by
  obtain ⟨a, cap, rfl, hlc, hcm⟩ := hs.form
  have hal : Below w.heap.size w (w.alloc (.cells #[.slice a b.length cap] 84)) := (Below.refl _ _).alloc (Nat.le_refl _) _
  have hC := Lib.hid (szOf_cases l (bxN b))
  obtain ⟨z, hz⟩ : ∃ z, szOf l (bxN b) = z := ⟨_, rfl⟩
  go_enter Tryd.func132, Tryd.ntmps132
  go_wp2_with fail
  refine (szSpanSS_any b _ l _ (hs.below hal) h0 h1).mono ?_
  rw [hz]
  rintro e _ ⟨rfl, rfl⟩
  have hC' := hC.out
  rw [hz] at hC'
  have HZ := Lib.hid hz
  clear hC hz
  by_cases hz0 : z < 0
  · have hz1 : z = -1 := by omega
    subst hz1
    go_wp2
    go_ret
    exact ⟨ret_int HZ.out.symm, hal⟩
  · go_wp2
    go_ret
    exact ⟨ret_int HZ.out.symm, hal⟩
set_option maxHeartbeats 1000000 in
theorem szFlat_any {lo : Nat} (b : Bx) (v : Value) (c : Bool) (l : Int) (w : World) (hs : Rws lo w v b) (h0 : 0 ≤ l) (h1 : l ≤ 1048576) :
    Calls Tryd.prog 67 #[.agg #[v, .bool c], .int .i64 l] w fun e w' => e = .returned (.int .i64 (szOf l (bxN b))) ∧ Below w.heap.size w w' := by
  obtain ⟨a, cap, rfl, hlc, hcm⟩ := hs.form
  have hal : Below w.heap.size w (w.alloc (.cells #[.slice a b.length cap, .bool c] 86)) := (Below.refl _ _).alloc (Nat.le_refl _) _
  have hC := Lib.hid (szOf_cases l (bxN b))
  obtain ⟨z, hz⟩ : ∃ z, szOf l (bxN b) = z := ⟨_, rfl⟩
  go_enter Tryd.func67, Tryd.ntmps67
  go_wp2_with fail
  refine (szBox_any b _ l _ (hs.below hal) h0 h1).mono ?_
  rw [hz]
  rintro e w1 ⟨rfl, hb1⟩
  have hw1 : Below w.heap.size w w1 := hal.trans (hb1.mono (by simp))
  have hC' := hC.out
  rw [hz] at hC'
  have HZ := Lib.hid hz
  clear hC hz hb1
  by_cases hz0 : z < 0
  · have hz1 : z = -1 := by omega
    subst hz1
    go_wp2
    go_ret
    exact ⟨ret_int HZ.out.symm, hw1⟩
  · go_wp2
    go_ret
    exact ⟨ret_int HZ.out.symm, hw1⟩
set_option maxHeartbeats 1000000 in
theorem szFlatS_any {lo : Nat} (b : List Ft) (v : Value) (l : Int) (w : World) (hs : Fts lo w v b) (h0 : 0 ≤ l) (h1 : l ≤ 1048576) :
    Calls Tryd.prog 15 #[v, .int .i64 l] w fun e w' => e = .returned (.int .i64 (szOf l (ftN b))) ∧ Below w.heap.size w w' := by
  obtain ⟨a, cap, rfl, hlc, hcm⟩ := hs.form
  have hb : ftN b = b.length + sumTo (fun f => bxN f.box) b b.length := rfl
  unfold maxLen at hcm
  generalize hn : b.length = n at *
  have HN := Lib.hid hn
  clear hn
  by_cases hl : l < n
  · have HE := Lib.hid (show szOf l (ftN b) = -1 by unfold szOf; rw [if_pos (by omega)])
    clear hb
    go_enter Tryd.func15, Tryd.ntmps15
    go_wp2
    go_ret
    exact ⟨ret_int HE.out.symm, Below.refl _ _⟩
  · have HB := Lib.hid hb
    clear hb
    go_enter Tryd.func15, Tryd.ntmps15
    go_wp2_with fail
    go_loopw [1, 5] (fun x i wr => ∃ k : Nat, k ≤ n ∧ i = .int .i64 k ∧ x = .int .i64 (l - n - (sumTo (fun f : Ft => bxN f.box) b k : Nat)) ∧ (n : Int) + (sumTo (fun f : Ft => bxN f.box) b k : Nat) ≤ l ∧ Below w.heap.size w wr) (fun _ i _ => n - (intOf i).toNat)
    case atStart => exact ⟨0, by omega, rfl, by rw [sumTo_zero]; simp, by rw [sumTo_zero]; simp; omega, Below.refl _ _⟩
    case round =>
      obtain ⟨k, hk, rfl, rfl, hle, hbr⟩ := hrel
      have hzr := hbr.size
      by_cases hlt : k < n
      · have i1 : (k : Int) < (n : Int) := by omega
        have i2 : (0 : Int) ≤ (k : Int) := by omega
        obtain ⟨f, hx⟩ : ∃ f, b[k]? = some f := ⟨_, List.getElem?_eq_getElem (by rw [HN.out]; exact hlt)⟩
        obtain ⟨b', o, sv, rfl, hbl, c0, c1, hsv⟩ := (hs.below hbr).at hx
        have HSV := Lib.hid hsv
        have hsu := sumTo_succ (f := fun f : Ft => bxN f.box) hx
        have hle2 := sumTo_le (fun f : Ft => bxN f.box) b (k + 1) (n - (k + 1))
        rw [show k + 1 + (n - (k + 1)) = n by omega] at hle2
        clear hsv hx
        generalize hsk : sumTo (fun f : Ft => bxN f.box) b k = s at *
        have HSU := Lib.hid hsu
        have HL2 := Lib.hid hle2
        clear hsk hsu hle2
        obtain ⟨z, hz⟩ : ∃ z : Int, l - n - (s : Nat) = z := ⟨_, rfl⟩
        rw [hz]
        have hz0 : 0 ≤ z := by omega
        have hz1 : z ≤ 1048576 := by omega
        have hC := szOf_cases z (bxN f.box)
        obtain ⟨y, hy⟩ : ∃ y, szOf z (bxN f.box) = y := ⟨_, rfl⟩
        rw [hy] at hC
        have HC := Lib.hid hC
        have HZ := Lib.hid hz
        clear hz hC
        go_wp2_with fail
        refine (szFlat_any f.box sv f.acc z _ HSV.out hz0 hz1).mono ?_
        rw [hy]
        rintro e w9 ⟨rfl, hb9⟩
        have hb10 : Below w.heap.size w w9 := hbr.trans (hb9.mono hzr)
        clear hy hb9
        by_cases hq : y < 0
        · have HE := Lib.hid (show szOf l (ftN b) = -1 by
            have h1 := HSU.out; have h2 := HL2.out; have h3 := HB.out; have h4 := HZ.out; have h5 := HC.out
            unfold szOf; rw [if_pos (by omega)])
          go_wp2
          go_ret
          exact ⟨ret_int HE.out.symm, hb10⟩
        · go_wp2
          go_roundw
          case rel => exact ⟨k + 1, by omega, by go_num, by rw [HSU.out]; congr 1; have := HZ.out; have := HC.out; push_cast; omega, by rw [HSU.out]; have := HZ.out; have := HC.out; push_cast; omega, hb10⟩
          case measure => simp [intOf]; omega
      · have hkn : k = n := by omega
        have HE := Lib.hid (show szOf l (ftN b) = l - n - (sumTo (fun f : Ft => bxN f.box) b k : Nat) by
          have h3 := HB.out
          rw [← hkn] at h3 ⊢
          rw [← hkn] at hle
          unfold szOf; rw [if_neg (by omega), h3]; push_cast; omega)
        generalize sumTo (fun f : Ft => bxN f.box) b k = s at *
        go_wp2
        go_ret
        exact ⟨ret_int HE.out.symm, hbr⟩
theorem take_eq_succ {α : Type} {xs ys : List α} {k : Nat} {x y : α} (h : xs.take k = ys.take k) (hx : xs[k]? = some x) (hy : ys[k]? = some y) (e : x = y) : xs.take (k + 1) = ys.take (k + 1) := by
  rw [List.take_add_one, List.take_add_one, h, hx, hy, e]
set_option maxHeartbeats 2000000 in
theorem eqSpanSS_any {lo lo' : Nat} (xs ys : Bx) (v u : Value) (w : World) (hs : Rws lo w v xs) (hu : Rws lo' w u ys) :
    Calls Tryd.prog 141 #[v, u] w fun e w' => e = .returned (.bool (decide (xs = ys))) ∧ Below w.heap.size w w' := by
  obtain ⟨a, cap, rfl, hlc, hcm⟩ := hs.form
  obtain ⟨a', cap', rfl, hlc', hcm'⟩ := hu.form
  unfold maxLen at hcm hcm'
  by_cases hne : xs.length = ys.length
  · have hm : ys.length = xs.length := hne.symm
    rw [hm] at hu hlc' ⊢
    generalize hn : xs.length = n at *
    have HN := Lib.hid hn
    have HM := Lib.hid hm
    clear hn hm hne
    go_enter Tryd.func141, Tryd.ntmps141
    go_wp2_with fail
    go_loopw [5] (fun i wr => ∃ k : Nat, k ≤ n ∧ i = .int .i64 k ∧ xs.take k = ys.take k ∧ Below w.heap.size w wr) (fun i _ => n - (intOf i).toNat)
    case atStart => exact ⟨0, by omega, rfl, rfl, Below.refl _ _⟩
    case round =>
      obtain ⟨k, hk, rfl, hq, hbr⟩ := hrel
      have HQ := Lib.hid hq; clear hq
      have hs2 := hs.below hbr
      have hu2 := hu.below hbr
      have hzr := hbr.size
      by_cases hlt : k < n
      · obtain ⟨x, hx⟩ : ∃ x, xs[k]? = some x := ⟨_, List.getElem?_eq_getElem (by rw [HN.out]; exact hlt)⟩
        obtain ⟨y, hy⟩ : ∃ y, ys[k]? = some y := ⟨_, List.getElem?_eq_getElem (by rw [HM.out]; exact hlt)⟩
        obtain ⟨b, o, sv, rfl, hbl, c0, hsv⟩ := hs2.at hx
        obtain ⟨b', o', su, rfl, hbl', d0, hsu⟩ := hu2.at hy
        have HX := Lib.hid hx; have HY := Lib.hid hy
        have HSV := Lib.hid hsv; have HSU := Lib.hid hsu
        clear hx hy hsv hsu
        have i1 : (k : Int) < (n : Int) := by omega
        have i2 : (0 : Int) ≤ (k : Int) := by omega
        by_cases he : x = y
        · have HE := Lib.hid he; clear he
          have hd := decide_eq_true HE.out
          go_wp2_with fail
          refine wp_region_over (by kernel_rfl) (by kernel_rfl) (fun ov => ?_); have ov0 := fun x => ov x (b) (by (try simp) <;> omega); have ov1 := fun x => ov x (b') (by (try simp) <;> omega); clear ov; (iterate 9 (iterate 8 (try go_big_quiet_step (first | (go_at_call 166; with_reducible exact callsOver (eqSpanS_b (HSV.out.z.below (over_below _ _)) (HSU.out.z.below (over_below _ _)) hd)))))); refine wpQuiet_nil ?_; intro w9 hw9; have hb_w9 := below_over hw9; clear hw9 ov0 ov1
          have hb10 : Below w.heap.size w w9 := hbr.trans (hb_w9.mono hzr)
          clear hb_w9
          go_wp2
          go_roundw
          case rel => exact ⟨k + 1, by omega, by go_num, take_eq_succ HQ.out HX.out HY.out HE.out, hb10⟩
          case measure => simp [intOf]; omega
        · have HE := Lib.hid (show decide (xs = ys) = false from decide_eq_false (fun h => he (by have h1 := HX.out; have h2 := HY.out; rw [h, h2] at h1; exact (Option.some.inj h1).symm)))
          have hd := decide_eq_false he
          clear he
          go_wp2_with fail
          refine wp_region_over (by kernel_rfl) (by kernel_rfl) (fun ov => ?_); have ov0 := fun x => ov x (b) (by (try simp) <;> omega); have ov1 := fun x => ov x (b') (by (try simp) <;> omega); clear ov; (iterate 9 (iterate 8 (try go_big_quiet_step (first | (go_at_call 166; with_reducible exact callsOver (eqSpanS_b (HSV.out.z.below (over_below _ _)) (HSU.out.z.below (over_below _ _)) hd)))))); refine wpQuiet_nil ?_; intro w9 hw9; have hb_w9 := below_over hw9; clear hw9 ov0 ov1
          have hb10 : Below w.heap.size w w9 := hbr.trans (hb_w9.mono hzr)
          clear hb_w9
          go_wp2
          go_ret
          exact ⟨ret_bool HE.out.symm, hb10⟩
      · have HE := Lib.hid (show decide (xs = ys) = true from decide_eq_true (by
          have hkn : k = n := by omega
          have := HQ.out
          rw [hkn] at this
          rwa [List.take_of_length_le (by rw [HN.out]; exact Nat.le_refl _), List.take_of_length_le (by rw [HM.out]; exact Nat.le_refl _)] at this))
        go_wp2
        go_ret
        exact ⟨ret_bool HE.out.symm, hbr⟩
  · have HN := Lib.hid (decide_eq_false (fun h : xs = ys => hne (by rw [h])))
    have hb : ((xs.length : Int) == (ys.length : Int)) = false := by simpa using (by omega : (xs.length : Int) ≠ ys.length)
    clear hne
    go_enter Tryd.func141, Tryd.ntmps141
    go_wp2
    go_ret
    exact ⟨ret_bool HN.out.symm, by (repeat' (first | with_reducible exact Below.refl _ _ | with_reducible assumption | with_reducible refine Below.setCell ?_ ?_ _ | with_reducible refine Below.alloc ?_ ?_ _ | with_reducible refine Below.drew ?_ | with_reducible refine belDrewN ?_ _ | with_reducible refine Below.trans ?_ (Below.mono (by assumption) ?_) | omega | (simp; omega) | (simp; done)))⟩
theorem eqSpanSS_b {lo lo' : Nat} {xs ys : Bx} {v u : Value} {w : World} {r : Bool} (hs : Rws lo w v xs) (hu : Rws lo' w u ys) (h : decide (xs = ys) = r) :
    Calls Tryd.prog 141 #[v, u] w fun e w' => e = .returned (.bool r) ∧ Below w.heap.size w w' := by
  subst h
  exact eqSpanSS_any xs ys v u w hs hu
set_option maxHeartbeats 1000000 in
theorem eqBox_b {lo lo' : Nat} {xs ys : Bx} {v u : Value} {w : World} {r : Bool} (hs : Rws lo w v xs) (hu : Rws lo' w u ys) (h : decide (xs = ys) = r) :
    Calls Tryd.prog 82 #[.agg #[v], .agg #[u]] w fun e w' => e = .returned (.bool r) ∧ Below w.heap.size w w' := by
  obtain ⟨a, cap, rfl, hlc, hcm⟩ := hs.form
  obtain ⟨a', cap', rfl, hlc', hcm'⟩ := hu.form
  go_enter Tryd.func82, Tryd.ntmps82
  go_wp2_with fail
  refine (eqSpanSS_b (hs.below (by (repeat' (first | with_reducible exact Below.refl _ _ | with_reducible assumption | with_reducible refine Below.setCell ?_ ?_ _ | with_reducible refine Below.alloc ?_ ?_ _ | with_reducible refine Below.drew ?_ | with_reducible refine belDrewN ?_ _ | with_reducible refine Below.trans ?_ (Below.mono (by assumption) ?_) | omega | (simp; omega) | (simp; done))))) (hu.below (by (repeat' (first | with_reducible exact Below.refl _ _ | with_reducible assumption | with_reducible refine Below.setCell ?_ ?_ _ | with_reducible refine Below.alloc ?_ ?_ _ | with_reducible refine Below.drew ?_ | with_reducible refine belDrewN ?_ _ | with_reducible refine Below.trans ?_ (Below.mono (by assumption) ?_) | omega | (simp; omega) | (simp; done))))) h).mono ?_
  rintro e w1 ⟨rfl, hb1⟩
  have hw1 : Below w.heap.size w w1 := by (repeat' (first | with_reducible exact Below.refl _ _ | with_reducible assumption | with_reducible refine Below.setCell ?_ ?_ _ | with_reducible refine Below.alloc ?_ ?_ _ | with_reducible refine Below.drew ?_ | with_reducible refine belDrewN ?_ _ | with_reducible refine Below.trans ?_ (Below.mono (by assumption) ?_) | omega | (simp; omega) | (simp; done)))
  clear hb1
  cases r
  all_goals
    go_wp2
    go_ret
    exact ⟨rfl, hw1⟩
set_option maxHeartbeats 1000000 in
theorem eqFlat_b {lo lo' : Nat} {xs ys : Bx} {c d : Bool} {v u : Value} {w : World} {r : Bool} (hs : Rws lo w v xs) (hu : Rws lo' w u ys) (h : decide ((⟨xs, c⟩ : Ft) = ⟨ys, d⟩) = r) :
    Calls Tryd.prog 75 #[.agg #[v, .bool c], .agg #[u, .bool d]] w fun e w' => e = .returned (.bool r) ∧ Below w.heap.size w w' := by
  obtain ⟨a, cap, rfl, hlc, hcm⟩ := hs.form
  obtain ⟨a', cap', rfl, hlc', hcm'⟩ := hu.form
  obtain ⟨q, hq⟩ : ∃ q, decide (xs = ys) = q := ⟨_, rfl⟩
  have hr : r = (q && decide (c = d)) := by
    rw [← h, ← hq]
    by_cases h1 : xs = ys <;> by_cases h2 : c = d <;> simp [h1, h2]
  clear h
  go_enter Tryd.func75, Tryd.ntmps75
  
  go_wp2_with fail; refine (eqBox_b (hs.below (by (repeat' (first | with_reducible exact Below.refl _ _ | with_reducible assumption | with_reducible refine Below.setCell ?_ ?_ _ | with_reducible refine Below.alloc ?_ ?_ _ | with_reducible refine Below.drew ?_ | with_reducible refine belDrewN ?_ _ | with_reducible refine Below.trans ?_ (Below.mono (by assumption) ?_) | omega | (simp; omega) | (simp; done))))) (hu.below (by (repeat' (first | with_reducible exact Below.refl _ _ | with_reducible assumption | with_reducible refine Below.setCell ?_ ?_ _ | with_reducible refine Below.alloc ?_ ?_ _ | with_reducible refine Below.drew ?_ | with_reducible refine belDrewN ?_ _ | with_reducible refine Below.trans ?_ (Below.mono (by assumption) ?_) | omega | (simp; omega) | (simp; done))))) hq).mono ?_; rintro e w1 ⟨rfl, hb1⟩; obtain ⟨hc1, hf1⟩ := bcell hb1; have hz1 := hb1.size; (try simp at hz1); (try have hz1_w_0 : w.heap.size < w1.heap.size := (by omega)); (try have hz1_w_1 : w.heap.size + 1 < w1.heap.size := (by omega)); (try have hz1_w_2 : w.heap.size + 2 < w1.heap.size := (by omega)); have k1 := ownCells hb1 w.heap.size (by simp; omega); have k1' := ownCells hb1 (w.heap.size + 1) (by simp)
  have hw1 : Below w.heap.size w w1 := by (repeat' (first | with_reducible exact Below.refl _ _ | with_reducible assumption | with_reducible refine Below.setCell ?_ ?_ _ | with_reducible refine Below.alloc ?_ ?_ _ | with_reducible refine Below.drew ?_ | with_reducible refine belDrewN ?_ _ | with_reducible refine Below.trans ?_ (Below.mono (by assumption) ?_) | omega | (simp; omega) | (simp; done)))
  have HR := Lib.hid hr
  clear hr hq
  cases q
  · go_wp2
    go_ret
    exact ⟨ret_bool (by rw [HR.out]; rfl), hw1⟩
  · cases c <;> cases d
    all_goals
      go_wp2
      go_ret
      exact ⟨ret_bool (by rw [HR.out]; rfl), hw1⟩
set_option maxHeartbeats 2000000 in
theorem eqFlatS_any {lo lo' : Nat} (xs ys : List Ft) (v u : Value) (w : World) (hs : Fts lo w v xs) (hu : Fts lo' w u ys) :
    Calls Tryd.prog 19 #[v, u] w fun e w' => e = .returned (.bool (decide (xs = ys))) ∧ Below w.heap.size w w' := by
  obtain ⟨a, cap, rfl, hlc, hcm⟩ := hs.form
  obtain ⟨a', cap', rfl, hlc', hcm'⟩ := hu.form
  unfold maxLen at hcm hcm'
  by_cases hne : xs.length = ys.length
  · have hm : ys.length = xs.length := hne.symm
    rw [hm] at hu hlc' ⊢
    generalize hn : xs.length = n at *
    have HN := Lib.hid hn
    have HM := Lib.hid hm
    clear hn hm hne
    go_enter Tryd.func19, Tryd.ntmps19
    go_wp2_with fail
    go_loopw [5] (fun i wr => ∃ k : Nat, k ≤ n ∧ i = .int .i64 k ∧ xs.take k = ys.take k ∧ Below w.heap.size w wr) (fun i _ => n - (intOf i).toNat)
    case atStart => exact ⟨0, by omega, rfl, rfl, Below.refl _ _⟩
    case round =>
      obtain ⟨k, hk, rfl, hq, hbr⟩ := hrel
      have HQ := Lib.hid hq; clear hq
      have hs2 := hs.below hbr
      have hu2 := hu.below hbr
      have hzr := hbr.size
      by_cases hlt : k < n
      · obtain ⟨x, hx⟩ : ∃ x, xs[k]? = some x := ⟨_, List.getElem?_eq_getElem (by rw [HN.out]; exact hlt)⟩
        obtain ⟨y, hy⟩ : ∃ y, ys[k]? = some y := ⟨_, List.getElem?_eq_getElem (by rw [HM.out]; exact hlt)⟩
        obtain ⟨b, o, sv, rfl, hbl, c0, c1, hsv⟩ := hs2.at hx
        obtain ⟨b', o', su, rfl, hbl', d0, d1, hsu⟩ := hu2.at hy
        have HX := Lib.hid hx; have HY := Lib.hid hy
        have HSV := Lib.hid hsv; have HSU := Lib.hid hsu
        clear hx hy hsv hsu
        have i1 : (k : Int) < (n : Int) := by omega
        have i2 : (0 : Int) ≤ (k : Int) := by omega
        by_cases he : x = y
        · have HE := Lib.hid he; clear he
          have hd := decide_eq_true HE.out
          go_wp2_with fail
          refine wp_region_over (by kernel_rfl) (by kernel_rfl) (fun ov => ?_); have ov0 := fun x => ov x (b) (by (try simp) <;> omega); have ov1 := fun x => ov x (b') (by (try simp) <;> omega); clear ov; (iterate 9 (iterate 8 (try go_big_quiet_step (first | (go_at_call 75; with_reducible exact callsOver (eqFlat_b (HSV.out.below (over_below _ _)) (HSU.out.below (over_below _ _)) hd)))))); refine wpQuiet_nil ?_; intro w9 hw9; have hb_w9 := below_over hw9; clear hw9 ov0 ov1
          have hb10 : Below w.heap.size w w9 := hbr.trans (hb_w9.mono hzr)
          clear hb_w9
          go_wp2
          go_roundw
          case rel => exact ⟨k + 1, by omega, by go_num, take_eq_succ HQ.out HX.out HY.out HE.out, hb10⟩
          case measure => simp [intOf]; omega
        · have HE := Lib.hid (show decide (xs = ys) = false from decide_eq_false (fun h => he (by have h1 := HX.out; have h2 := HY.out; rw [h, h2] at h1; exact (Option.some.inj h1).symm)))
          have hd := decide_eq_false he
          clear he
          go_wp2_with fail
          refine wp_region_over (by kernel_rfl) (by kernel_rfl) (fun ov => ?_); have ov0 := fun x => ov x (b) (by (try simp) <;> omega); have ov1 := fun x => ov x (b') (by (try simp) <;> omega); clear ov; (iterate 9 (iterate 8 (try go_big_quiet_step (first | (go_at_call 75; with_reducible exact callsOver (eqFlat_b (HSV.out.below (over_below _ _)) (HSU.out.below (over_below _ _)) hd)))))); refine wpQuiet_nil ?_; intro w9 hw9; have hb_w9 := below_over hw9; clear hw9 ov0 ov1
          have hb10 : Below w.heap.size w w9 := hbr.trans (hb_w9.mono hzr)
          clear hb_w9
          go_wp2
          go_ret
          exact ⟨ret_bool HE.out.symm, hb10⟩
      · have HE := Lib.hid (show decide (xs = ys) = true from decide_eq_true (by
          have hkn : k = n := by omega
          have := HQ.out
          rw [hkn] at this
          rwa [List.take_of_length_le (by rw [HN.out]; exact Nat.le_refl _), List.take_of_length_le (by rw [HM.out]; exact Nat.le_refl _)] at this))
        go_wp2
        go_ret
        exact ⟨ret_bool HE.out.symm, hbr⟩
  · have HN := Lib.hid (decide_eq_false (fun h : xs = ys => hne (by rw [h])))
    have hb : ((xs.length : Int) == (ys.length : Int)) = false := by simpa using (by omega : (xs.length : Int) ≠ ys.length)
    clear hne
    go_enter Tryd.func19, Tryd.ntmps19
    go_wp2
    go_ret
    exact ⟨ret_bool HN.out.symm, by (repeat' (first | with_reducible exact Below.refl _ _ | with_reducible assumption | with_reducible refine Below.setCell ?_ ?_ _ | with_reducible refine Below.alloc ?_ ?_ _ | with_reducible refine Below.drew ?_ | with_reducible refine belDrewN ?_ _ | with_reducible refine Below.trans ?_ (Below.mono (by assumption) ?_) | omega | (simp; omega) | (simp; done)))⟩
theorem eqFlatS_b {lo lo' : Nat} {xs ys : List Ft} {v u : Value} {w : World} {r : Bool} (hs : Fts lo w v xs) (hu : Fts lo' w u ys) (h : decide (xs = ys) = r) :
    Calls Tryd.prog 19 #[v, u] w fun e w' => e = .returned (.bool r) ∧ Below w.heap.size w w' := by
  subst h
  exact eqFlatS_any xs ys v u w hs hu
/-- The elements own one interval of blocks behind another. -/
def OwnC {α β : Type} (P : Nat → Nat → α → β → Prop) : Nat → Nat → List α → List β → Prop
  | lo, hi, [], [] => lo ≤ hi
  | lo, hi, a :: la, b :: lb => ∃ mid, P lo mid a b ∧ OwnC P mid hi la lb
  | _, _, _, _ => False
theorem OwnC.le {α β : Type} {P : Nat → Nat → α → β → Prop} (hP : ∀ l h x y, P l h x y → l ≤ h) : ∀ {lo hi : Nat} {la : List α} {lb : List β}, OwnC P lo hi la lb → lo ≤ hi
  | _, _, [], [], h => h
  | _, _, [], _ :: _, h => h.elim
  | _, _, _ :: _, [], h => h.elim
  | _, _, _ :: _, _ :: _, ⟨_, h1, h2⟩ => Nat.le_trans (hP _ _ _ _ h1) (OwnC.le hP h2)
theorem OwnC.len {α β : Type} {P : Nat → Nat → α → β → Prop} : ∀ {lo hi : Nat} {la : List α} {lb : List β}, OwnC P lo hi la lb → la.length = lb.length
  | _, _, [], [], _ => rfl
  | _, _, [], _ :: _, h => h.elim
  | _, _, _ :: _, [], h => h.elim
  | _, _, _ :: _, _ :: _, ⟨_, _, h2⟩ => by simp [OwnC.len h2]
theorem OwnC.snoc {α β : Type} {P : Nat → Nat → α → β → Prop} {hi' : Nat} {a : α} {b : β} : ∀ {lo hi : Nat} {la : List α} {lb : List β}, OwnC P lo hi la lb → (∀ l, l ≤ hi → P l hi' a b) → hi ≤ hi' → OwnC P lo hi' (la ++ [a]) (lb ++ [b])
  | _, _, [], [], h, hp, _ => ⟨hi', hp _ h, Nat.le_refl _⟩
  | _, _, [], _ :: _, h, _, _ => h.elim
  | _, _, _ :: _, [], h, _, _ => h.elim
  | _, _, _ :: _, _ :: _, ⟨mid, h1, h2⟩, hp, hh => ⟨mid, h1, OwnC.snoc h2 hp hh⟩
theorem OwnC.imp {α β : Type} {P P' : Nat → Nat → α → β → Prop} (hP : ∀ l h x y, P l h x y → l ≤ h) : ∀ {lo hi : Nat} {la : List α} {lb : List β}, OwnC P lo hi la lb → (∀ l h x y, lo ≤ l → h ≤ hi → P l h x y → P' l h x y) → OwnC P' lo hi la lb
  | _, _, [], [], h, _ => h
  | _, _, [], _ :: _, h, _ => h.elim
  | _, _, _ :: _, [], h, _ => h.elim
  | _, _, _ :: _, _ :: _, ⟨mid, h1, h2⟩, hp => ⟨mid, hp _ _ _ _ (Nat.le_refl _) (OwnC.le hP h2) h1, OwnC.imp hP h2 (fun l h x y g1 g2 g3 => hp l h x y (Nat.le_trans (hP _ _ _ _ h1) g1) g2 g3)⟩
theorem OwnC.hi {α β : Type} {P : Nat → Nat → α → β → Prop} {hi' : Nat} : ∀ {lo hi : Nat} {la : List α} {lb : List β}, OwnC P lo hi la lb → hi ≤ hi' → OwnC P lo hi' la lb
  | _, _, [], [], h, hh => Nat.le_trans h hh
  | _, _, [], _ :: _, h, _ => h.elim
  | _, _, _ :: _, [], h, _ => h.elim
  | _, _, _ :: _, _ :: _, ⟨mid, h1, h2⟩, hh => ⟨mid, h1, OwnC.hi h2 hh⟩
/-- One element is turned, the others stay. -/
theorem OwnC.step {α β : Type} {P : Nat → Nat → α → β → Prop} (hP : ∀ l h x y, P l h x y → l ≤ h) {a : α} {b : β} : ∀ {lo hi : Nat} {la : List α} {lb : List β} (i : Nat), OwnC P lo hi la lb → la[i]? = some a → lb[i]? = some b →
    ∃ l m, lo ≤ l ∧ l ≤ m ∧ m ≤ hi ∧ P l m a b ∧ ∀ (P' : Nat → Nat → α → β → Prop) (a' : α) (b' : β), P' l m a' b' → (∀ l' h' x y, (h' ≤ l ∨ m ≤ l') → P l' h' x y → P' l' h' x y) → OwnC P' lo hi (la.set i a') (lb.set i b')
  | _, _, [], _, i, _, ha, _ => by simp at ha
  | _, _, _ :: _, [], i, h, _, _ => h.elim
  | lo, hi, x :: la, y :: lb, 0, ⟨mid, h1, h2⟩, ha, hb => by
    simp at ha hb
    subst ha hb
    refine ⟨lo, mid, Nat.le_refl _, hP _ _ _ _ h1, OwnC.le hP h2, h1, fun P' a' b' h3 h4 => ⟨mid, h3, ?_⟩⟩
    exact OwnC.imp hP h2 (fun l h x y g1 _ g3 => h4 l h x y (.inr g1) g3)
  | lo, hi, x :: la, y :: lb, i + 1, ⟨mid, h1, h2⟩, ha, hb => by
    obtain ⟨l, m, k1, k2, k3, k4, k5⟩ := OwnC.step hP i h2 (by simpa using ha) (by simpa using hb)
    refine ⟨l, m, Nat.le_trans (hP _ _ _ _ h1) k1, k2, k3, k4, fun P' a' b' h3 h4 => ⟨mid, h4 _ _ _ _ (.inl k1) h1, k5 P' a' b' h3 h4⟩⟩
theorem OwnC.all2 {α β : Type} {P : Nat → Nat → α → β → Prop} {R : α → β → Prop} (hP : ∀ l h x y, P l h x y → l ≤ h) {lo hi : Nat} {la : List α} {lb : List β} (h : OwnC P lo hi la lb) (hR : ∀ l m x y, lo ≤ l → m ≤ hi → P l m x y → R x y) : All2 R la lb := by
  refine ⟨h.len, fun k x y hx hy => ?_⟩
  obtain ⟨l, m, h1, _, h3, h4, _⟩ := h.step hP k hx hy
  exact hR l m x y h1 h3 h4
/-- The blocks from lo up to hi stay. -/
structure Kpi (lo hi : Nat) (w w' : World) : Prop where
  size : w.heap.size ≤ w'.heap.size
  block : ∀ k, lo ≤ k → k < hi → k < w.heap.size → w'.heap[k]? = w.heap[k]?
theorem Kpi.of {lo hi : Nat} {w w' : World} (h : Below w.heap.size w w') : Kpi lo hi w w' := ⟨h.size, fun k _ _ hk => h.block k hk⟩
theorem Kpi.sub {lo hi lo' hi' : Nat} {w w' : World} (h : Kpi lo hi w w') (h1 : lo ≤ lo') (h2 : hi' ≤ hi) : Kpi lo' hi' w w' := ⟨h.size, fun k g1 g2 g3 => h.block k (Nat.le_trans h1 g1) (Nat.lt_of_lt_of_le g2 h2) g3⟩
theorem OwnSl.keepB {α : Type} {base e sz : Nat} {enc : α → List Value} {w w' : World} {v : Value} {ys : List α} (h : OwnSl base e sz enc w v ys) (hb : ∀ g, v.ownBlock = some g → base ≤ g → g < w.heap.size → w'.heap[g]? = w.heap[g]?) : OwnSl base e sz enc w' v ys := by
  refine ⟨h.1, ?_⟩
  obtain ⟨_, h | ⟨g, cap, cur, rfl, hg, hh, r⟩⟩ := h
  · exact Or.inl h
  · exact Or.inr ⟨g, cap, cur, rfl, hg, (hb g rfl hg (Array.getElem?_eq_some_iff.1 hh).1).trans hh, r⟩
/-- A slice with its block between lo and hi. -/
def OwnI {α : Type} (e sz : Nat) (enc : α → List Value) (w : World) (lo hi : Nat) (v : Value) (xs : List α) : Prop := OwnSl lo e sz enc w v xs ∧ (∀ x, v.ownBlock = some x → x < hi) ∧ lo ≤ hi
theorem OwnI.keep {α : Type} {e sz : Nat} {enc : α → List Value} {w w' : World} {lo hi : Nat} {v : Value} {xs : List α} (h : OwnI e sz enc w lo hi v xs) (hk : Kpi lo hi w w') : OwnI e sz enc w' lo hi v xs :=
  ⟨h.1.keepB (fun g h1 h2 h3 => hk.block g h2 (h.2.1 g h1) h3), h.2⟩
theorem OwnI.le {α : Type} {e sz : Nat} {enc : α → List Value} {w : World} : ∀ l h (v : Value) (xs : List α), OwnI e sz enc w l h v xs → l ≤ h := fun _ _ _ _ h => h.2.2
def PSp (w : World) (lo hi : Nat) (v : Value) (xs : List Sp) : Prop := OwnI 125 2 Sp.enc w lo hi v xs
theorem PSp.le {w : World} : ∀ l h (v : Value) (xs : List Sp), PSp w l h v xs → l ≤ h := OwnI.le
/-- A box of the call's own. -/
def OwnRw (w : World) (lo hi : Nat) (v : Value) (b : Bx) : Prop := ∃ vs mid, OwnI 126 1 enc1 w lo mid v vs ∧ OwnC (PSp w) mid hi vs b
theorem OwnRw.le {w : World} : ∀ l h (v : Value) (b : Bx), OwnRw w l h v b → l ≤ h := fun _ _ _ _ ⟨_, _, h1, h2⟩ => Nat.le_trans h1.2.2 (OwnC.le PSp.le h2)
theorem OwnRw.keep {w w' : World} {lo hi : Nat} {v : Value} {b : Bx} (h : OwnRw w lo hi v b) (hk : Kpi lo hi w w') : OwnRw w' lo hi v b := by
  obtain ⟨vs, mid, h1, h2⟩ := h
  have hm := OwnC.le PSp.le h2
  exact ⟨vs, mid, h1.keep (hk.sub (Nat.le_refl _) hm), OwnC.imp PSp.le h2 (fun l h x y g1 g2 g3 => OwnI.keep g3 (hk.sub (Nat.le_trans h1.2.2 g1) g2))⟩
theorem OwnRw.rws {w : World} {lo hi : Nat} {v : Value} {b : Bx} (h : OwnRw w lo hi v b) : Rws lo w v b := by
  obtain ⟨vs, mid, h1, h2⟩ := h
  exact ⟨vs, OwnSl.fr (sz := 1) (enc := enc1) (fun _ => rfl) h1.1, OwnC.all2 PSp.le h2 (fun l m x y g1 _ g3 => Sps.mono (OwnSl.fr (sz := 2) (enc := Sp.enc) (fun _ => rfl) g3.1) (Nat.le_trans h1.2.2 g1))⟩
def PFt (w : World) (lo hi : Nat) (r : RF) (f : Ft) : Prop := OwnRw w lo hi r.s f.box ∧ r.acc = f.acc
theorem PFt.le {w : World} : ∀ l h (r : RF) (f : Ft), PFt w l h r f → l ≤ h := fun _ _ _ _ h => OwnRw.le _ _ _ _ h.1
def OwnFs (w : World) (lo hi : Nat) (v : Value) (fs : List Ft) : Prop := ∃ rs mid, OwnI 75 2 RF.enc w lo mid v rs ∧ OwnC (PFt w) mid hi rs fs
theorem OwnFs.keep {w w' : World} {lo hi : Nat} {v : Value} {fs : List Ft} (h : OwnFs w lo hi v fs) (hk : Kpi lo hi w w') : OwnFs w' lo hi v fs := by
  obtain ⟨vs, mid, h1, h2⟩ := h
  have hm := OwnC.le PFt.le h2
  exact ⟨vs, mid, h1.keep (hk.sub (Nat.le_refl _) hm), OwnC.imp PFt.le h2 (fun l h x y g1 g2 g3 => ⟨g3.1.keep (hk.sub (Nat.le_trans h1.2.2 g1) g2), g3.2⟩)⟩
theorem OwnFs.fts {w : World} {lo hi : Nat} {v : Value} {fs : List Ft} (h : OwnFs w lo hi v fs) : Fts lo w v fs := by
  obtain ⟨vs, mid, h1, h2⟩ := h
  exact ⟨vs, OwnSl.fr (sz := 2) (enc := RF.enc) (fun _ => rfl) h1.1, OwnC.all2 PFt.le h2 (fun l m x y g1 _ g3 => ⟨Rws.mono g3.1.rws (Nat.le_trans h1.2.2 g1), g3.2⟩)⟩
theorem infoSl : (Tryd.prog.info? 126).map (fun i => (i.zero, i.size, i.bytes)) = some (some (.slice none 0 0), 1, 24) := by kernel_rfl
theorem infoFt : (Tryd.prog.info? 75).map (fun i => (i.zero, i.size, i.bytes)) = some (some (.agg #[.slice none 0 0, .bool false]), 2, 32) := by kernel_rfl
def RetRw (b : Bx) (w : World) (e : Ending) (w' : World) : Prop := ∃ v, e = .returned v ∧ OwnRw w' w.heap.size w'.heap.size v b ∧ Below w.heap.size w w'
theorem set_rep {α : Type} (vs : List α) (n k : Nat) (z y : α) (hl : vs.length = k) (hk : k < n) : (vs ++ List.replicate (n - k) z).set k y = (vs ++ [y]) ++ List.replicate (n - (k + 1)) z := by
  rw [List.set_append_right _ _ (by omega), hl, Nat.sub_self, show n - k = (n - (k + 1)) + 1 from by omega, List.replicate_succ, List.set_cons_zero, List.append_assoc]
  rfl
set_option maxHeartbeats 2000000 in
theorem toSpanSS_any {lo : Nat} (b : Bx) (v : Value) (w : World) (hs : Rws lo w v b) (hn : b.length ≤ 1048576) (he : ∀ (k : Nat) xs, b[k]? = some xs → xs.length ≤ 1048576) :
    Calls Tryd.prog 165 #[v] w (RetRw b w) := by
  obtain ⟨a, cap, rfl, hlc, hcm⟩ := hs.form
  unfold maxLen at hcm
  obtain ⟨i0, hi, hz0, hz1, hz2⟩ := info_parts infoSl
  have HEE := Lib.hid he
  clear he
  go_enter Tryd.func165, Tryd.ntmps165
  go_wp2_with (at_make; refine wpList_make_full _ rfl _ _ 56 rfl w.heap.size 126 i0 _ 1 Tryd.underlying56 hi hz0 hz1 _ _ _ _ b.length rfl rfl rfl rfl ?b1 ?b2 ?b3 ?_)
  case b1 => rw [hz2]; omega
  case b2 => simp only [maxLen]; omega
  case b3 => omega
  intro w1 hown1 hgrow1
  have hb1 : Below w.heap.size w w1 := (Below.refl _ _).grown hgrow1 (Nat.le_refl _) (fun k hk => by cases hk)
  have HO1 := Lib.hid (show OwnSl w.heap.size 126 1 enc1 w1 (.slice (some ⟨w.heap.size, 0, none⟩) b.length b.length) (List.replicate b.length (Value.slice none 0 0)) by unfold OwnSl; rw [List.length_replicate, ← madeFlat (sz := 1) (enc := enc1) (fun _ => rfl) (by omega) (.slice none 0 0) (Value.slice none 0 0) rfl, Nat.mul_one]; exact hown1)
  clear hown1 hgrow1
  generalize hnn : b.length = n at *
  have HN := Lib.hid hnn
  clear hnn
  have hzw1 : w.heap.size < w1.heap.size := by
    rcases OwnSl.form HO1.out with ⟨h, _⟩ | ⟨g, cp, h, _, h2, _⟩
    · cases h
    · obtain ⟨h3, _, _⟩ := Value.slice.inj h; cases h3; exact h2
  go_wp2_with fail
  go_loopw [4] (fun i wr => ∃ (k : Nat) (vs : List Value), k ≤ n ∧ i = .int .i64 k ∧ vs.length = k ∧ OwnSl w.heap.size 126 1 enc1 wr (.slice (some ⟨w.heap.size, 0, none⟩) n n) (vs ++ List.replicate (n - k) (Value.slice none 0 0)) ∧ OwnC (PSp wr) (w.heap.size + 1) wr.heap.size vs (b.take k) ∧ Below w.heap.size w wr ∧ w.heap.size < wr.heap.size) (fun i _ => n - (intOf i).toNat)
  case atStart => exact ⟨0, [], by omega, rfl, rfl, by simpa using HO1.out, hzw1, hb1, hzw1⟩
  case round =>
    obtain ⟨k, vs, hk, rfl, hvs, hown, hC, hbr, hzw⟩ := hrel
    have HO := Lib.hid hown
    have HC := Lib.hid hC
    have HVS := Lib.hid hvs
    clear hown hC HO1 hb1 hzw1 hvs
    have hzr := hbr.size
    by_cases hlt : k < n
    · obtain ⟨xs, hx⟩ : ∃ xs, b[k]? = some xs := ⟨_, List.getElem?_eq_getElem (by rw [HN.out]; exact hlt)⟩
      obtain ⟨b', o, sv, rfl, hbl, c0, hsv⟩ := (hs.below hbr).at hx
      have HX := Lib.hid hx
      have i1 : (k : Int) < (n : Int) := by omega
      have i2 : (0 : Int) ≤ (k : Int) := by omega
      have hxl := HEE.out k xs hx
      clear hx
      go_wp2_with fail
      refine (toSpanS_any xs _ _ hsv.z hxl).mono ?_
      rintro e w2 ⟨v2, rfl, ho2, hb2⟩
      have HO2 := Lib.hid (OwnSl.kept HO.out hb2)
      have hz2' := hb2.size
      have hP2 : PSp w2 wr.heap.size w2.heap.size v2 xs := ⟨ho2, fun x hx => (World.ownsRow.lt ho2 x hx).2, hz2'⟩
      have hC2 : OwnC (PSp w2) (w.heap.size + 1) wr.heap.size vs (b.take k) := OwnC.imp PSp.le HC.out (fun l h x y _ _ g3 => OwnI.keep g3 (Kpi.of hb2))
      have hlen : (vs ++ List.replicate (n - k) (Value.slice none 0 0)).length = n := by simp [HVS.out]; omega
      have HL := Lib.hid hlen; clear hlen
      obtain ⟨hst, hgr⟩ := OwnSl.store (sz := 1) (enc := enc1) (fun _ => rfl) HL.out.symm HO2.out (k := k) (by rw [HL.out]; exact hlt) v2
      rw [set_rep vs n k _ v2 HVS.out hlt] at hst
      have hfz : ∀ j, w2.frozen? ⟨w.heap.size, j, none⟩ = false := OwnSl.frz HO2.out
      have hcz := OwnSl.cell (sz := 1) (enc := enc1) (fun _ => rfl) HO2.out (k := k) (y := Value.slice none 0 0) (by rw [List.getElem?_append_right (by rw [HVS.out]; exact Nat.le_refl _), HVS.out, Nat.sub_self, List.getElem?_replicate, if_pos (by omega)])
      have d0 := hcz 0 _ rfl
      simp only [Nat.add_zero, Nat.mul_one, wSet] at d0 hst hgr
      have hK : Kpi (w.heap.size + 1) wr.heap.size w2 (w2.setCell ⟨w.heap.size, k, none⟩ v2) := ⟨hgr.size, fun j g1 _ g3 => hgr.block j g3 (by intro e; cases e; omega)⟩
      have hK' : Kpi wr.heap.size w2.heap.size w2 (w2.setCell ⟨w.heap.size, k, none⟩ v2) := ⟨hgr.size, fun j g1 _ g3 => hgr.block j g3 (by intro e; cases e; omega)⟩
      have hC3 : OwnC (PSp (w2.setCell ⟨w.heap.size, k, none⟩ v2)) (w.heap.size + 1) (w2.setCell ⟨w.heap.size, k, none⟩ v2).heap.size (vs ++ [v2]) (b.take (k + 1)) := by
        rw [List.take_add_one, HX.out]
        refine OwnC.snoc (OwnC.imp PSp.le hC2 (fun l h x y g1 g2 g3 => OwnI.keep g3 (hK.sub g1 g2))) (fun l hl => ?_) (Nat.le_trans hz2' hgr.size)
        obtain ⟨q1, q2, q3⟩ := OwnI.keep hP2 hK'
        exact ⟨OwnSl.mono q1 hl, fun x hx => Nat.lt_of_lt_of_le (q2 x hx) hgr.size, Nat.le_trans hl (Nat.le_trans hz2' hgr.size)⟩
      have hbw : Below w.heap.size w (w2.setCell ⟨w.heap.size, k, none⟩ v2) := (hbr.trans (hb2.mono hzr)).grown hgr (by omega) (fun k hk => by cases hk; omega)
      obtain ⟨va, vc, hv2, -, -⟩ := (OwnSp.sps ho2).form
      have HST := Lib.hid hst
      have HC3 := Lib.hid hC3
      have HBW := Lib.hid hbw
      have hsz3 : w.heap.size < (w2.setCell ⟨w.heap.size, k, none⟩ v2).heap.size := Nat.lt_of_lt_of_le (by omega) hgr.size
      subst hv2
      clear hcz hst hgr hK hK' hC3 hbw hP2 hC2 ho2 hb2 hsv c0 hs
      go_wp2
      go_roundw
      case rel => exact ⟨k + 1, _, by omega, by go_num, by simp [HVS.out], HST.out, HC3.out, HBW.out, hsz3⟩
      case measure => simp [intOf]; omega
    · have hkn : k = n := by omega
      subst hkn
      have HF := Lib.hid (show OwnRw wr w.heap.size wr.heap.size (.slice (some ⟨w.heap.size, 0, none⟩) k k) b from by
        have h1 := HO.out
        rw [Nat.sub_self, List.replicate_zero, List.append_nil] at h1
        have h2 := HC.out
        rw [List.take_of_length_le (by rw [HN.out]; exact Nat.le_refl _)] at h2
        exact ⟨vs, w.heap.size + 1, ⟨h1, fun x hx => by cases hx; exact Nat.lt_succ_self _, by omega⟩, h2⟩)
      go_wp2
      go_ret
      exact ⟨_, rfl, HF.out, hbr⟩
theorem OwnI.mono {α : Type} {e sz : Nat} {enc : α → List Value} {w : World} {lo lo' hi : Nat} {v : Value} {xs : List α} (h : OwnI e sz enc w lo hi v xs) (hl : lo' ≤ lo) : OwnI e sz enc w lo' hi v xs :=
  ⟨OwnSl.mono h.1 hl, h.2.1, Nat.le_trans hl h.2.2⟩
theorem OwnRw.mono {w : World} {lo lo' hi hi' : Nat} {v : Value} {b : Bx} (h : OwnRw w lo hi v b) (hl : lo' ≤ lo) (hh : hi ≤ hi') : OwnRw w lo' hi' v b := by
  obtain ⟨vs, mid, h1, h2⟩ := h
  exact ⟨vs, mid, h1.mono hl, h2.hi hh⟩
theorem OwnFs.mono {w : World} {lo lo' hi hi' : Nat} {v : Value} {b : List Ft} (h : OwnFs w lo hi v b) (hl : lo' ≤ lo) (hh : hi ≤ hi') : OwnFs w lo' hi' v b := by
  obtain ⟨vs, mid, h1, h2⟩ := h
  exact ⟨vs, mid, h1.mono hl, h2.hi hh⟩
def RetBx (b : Bx) (w : World) (e : Ending) (w' : World) : Prop := ∃ v, e = .returned (.agg #[v]) ∧ OwnRw w' w.heap.size w'.heap.size v b ∧ Below w.heap.size w w'
set_option maxHeartbeats 1000000 in
theorem toBox_any {lo : Nat} (b : Bx) (v : Value) (w : World) (hs : Rws lo w v b) (hn : b.length ≤ 1048576) (he : ∀ (k : Nat) xs, b[k]? = some xs → xs.length ≤ 1048576) :
    Calls Tryd.prog 134 #[.agg #[v]] w (RetBx b w) := by
  obtain ⟨a, cap, rfl, hlc, hcm⟩ := hs.form
  go_enter Tryd.func134, Tryd.ntmps134
  go_wp2_with fail
  refine (toSpanSS_any b _ _ (hs.below (by (repeat' (first | with_reducible exact Below.refl _ _ | with_reducible assumption | with_reducible refine Below.setCell ?_ ?_ _ | with_reducible refine Below.alloc ?_ ?_ _ | with_reducible refine Below.drew ?_ | with_reducible refine belDrewN ?_ _ | with_reducible refine Below.trans ?_ (Below.mono (by assumption) ?_) | omega | (simp; omega) | (simp; done))))) hn he).mono ?_
  rintro e w1 ⟨v1, rfl, ho1, hb1⟩
  have hz := hb1.size; simp at hz
  have kk := ownCells hb1 (w.heap.size) (by (try simp) <;> omega); have a0 := kk 0; clear kk; (try simp [go_sem] at a0)
  have kk := ownCells hb1 (w.heap.size + 1) (by (try simp) <;> omega); have r0 := kk 0; clear kk; (try simp [go_sem] at r0)
  have kk := ownCells hb1 (w.heap.size + 2) (by (try simp) <;> omega); have q0 := kk 0; clear kk; (try simp [go_sem] at q0)
  have hw1 : Below w.heap.size w w1 := by (repeat' (first | with_reducible exact Below.refl _ _ | with_reducible assumption | with_reducible refine Below.setCell ?_ ?_ _ | with_reducible refine Below.alloc ?_ ?_ _ | with_reducible refine Below.drew ?_ | with_reducible refine belDrewN ?_ _ | with_reducible refine Below.trans ?_ (Below.mono (by assumption) ?_) | omega | (simp; omega) | (simp; done)))
  obtain ⟨hc, hf⟩ := bcell hb1
  have hzw_0 : w.heap.size < w1.heap.size := (by omega); have hzw_1 : w.heap.size + 1 < w1.heap.size := (by omega); have hzw_2 : w.heap.size + 2 < w1.heap.size := (by omega)
  obtain ⟨va, vc, hv1, -, -⟩ := ho1.rws.form
  have HO1 := Lib.hid ho1
  simp only [World.size_alloc] at HO1
  subst hv1
  clear hc hb1 ho1
  go_wp2
  have hK : Kpi (w.heap.size + 3) w1.heap.size w1 ((w1.setCell ⟨w.heap.size + 1 + 1, 0, none⟩ (.slice va b.length vc)).setCell ⟨w.heap.size + 1, 0, none⟩ (.slice va b.length vc)) :=
    ⟨by simp [World.setCell], fun k g1 _ _ => (Below.heap_setCell _ _ _ _ (by simp; omega)).trans (Below.heap_setCell _ _ _ _ (by simp; omega))⟩
  have hF := OwnRw.mono (OwnRw.keep HO1.out hK) (show w.heap.size ≤ w.heap.size + 1 + 1 + 1 by omega) hK.size
  refine bodyPost_ret (v := .agg #[.slice va b.length vc]) (run_resCell (b := w.heap.size + 1) (o := 0) (cs := [.slice va b.length vc]) rfl rfl Tryd.isAgg58 Tryd.sizeOf58 ?_) rfl ⟨_, rfl, hF, by (repeat' (first | with_reducible exact Below.refl _ _ | with_reducible assumption | with_reducible refine Below.setCell ?_ ?_ _ | with_reducible refine Below.alloc ?_ ?_ _ | with_reducible refine Below.drew ?_ | with_reducible refine belDrewN ?_ _ | with_reducible refine Below.trans ?_ (Below.mono (by assumption) ?_) | omega | (simp; omega) | (simp; done)))⟩
  intro j v hj
  have hr : (w1.cell? ⟨w.heap.size + 1, 0, none⟩).isSome = true := by simp [r0]
  match j, hj with
  | 0, hj => cases hj; exact World.cell?_setCell_same' _ _ _ (by rw [World.cell?_setCell_other _ _ _ _ (by simp)]; exact hr)
  | j + 1, hj => simp at hj
def RetFt (f : Ft) (w : World) (e : Ending) (w' : World) : Prop := ∃ v, e = .returned (.agg #[v, .bool f.acc]) ∧ OwnRw w' w.heap.size w'.heap.size v f.box ∧ Below w.heap.size w w'
set_option maxHeartbeats 1000000 in
theorem toFlat_any {lo : Nat} (f : Ft) (v : Value) (w : World) (hs : Rws lo w v f.box) (hn : f.box.length ≤ 1048576) (he : ∀ (k : Nat) xs, f.box[k]? = some xs → xs.length ≤ 1048576) :
    Calls Tryd.prog 70 #[.agg #[v, .bool f.acc]] w (RetFt f w) := by
  obtain ⟨b, c⟩ := f
  simp only at hs hn he ⊢
  obtain ⟨a, cap, rfl, hlc, hcm⟩ := hs.form
  go_enter Tryd.func70, Tryd.ntmps70
  go_wp2_with fail
  refine (toBox_any b _ _ (hs.below (by (repeat' (first | with_reducible exact Below.refl _ _ | with_reducible assumption | with_reducible refine Below.setCell ?_ ?_ _ | with_reducible refine Below.alloc ?_ ?_ _ | with_reducible refine Below.drew ?_ | with_reducible refine belDrewN ?_ _ | with_reducible refine Below.trans ?_ (Below.mono (by assumption) ?_) | omega | (simp; omega) | (simp; done))))) hn he).mono ?_
  rintro e w1 ⟨v1, rfl, ho1, hb1⟩
  have hz := hb1.size; simp at hz
  have kk := ownCells hb1 (w.heap.size) (by (try simp) <;> omega); have a0 := kk 0; have a1 := kk 1; clear kk; (try simp [go_sem] at a0); (try simp [go_sem] at a1)
  have kk := ownCells hb1 (w.heap.size + 1) (by (try simp) <;> omega); have r0 := kk 0; have r1 := kk 1; clear kk; (try simp [go_sem] at r0); (try simp [go_sem] at r1)
  have kk := ownCells hb1 (w.heap.size + 2) (by (try simp) <;> omega); have q0 := kk 0; have q1 := kk 1; clear kk; (try simp [go_sem] at q0); (try simp [go_sem] at q1)
  have hw1 : Below w.heap.size w w1 := by (repeat' (first | with_reducible exact Below.refl _ _ | with_reducible assumption | with_reducible refine Below.setCell ?_ ?_ _ | with_reducible refine Below.alloc ?_ ?_ _ | with_reducible refine Below.drew ?_ | with_reducible refine belDrewN ?_ _ | with_reducible refine Below.trans ?_ (Below.mono (by assumption) ?_) | omega | (simp; omega) | (simp; done)))
  obtain ⟨hc, hf⟩ := bcell hb1
  have hzw_0 : w.heap.size < w1.heap.size := (by omega); have hzw_1 : w.heap.size + 1 < w1.heap.size := (by omega); have hzw_2 : w.heap.size + 2 < w1.heap.size := (by omega)
  obtain ⟨va, vc, hv1, -, -⟩ := ho1.rws.form
  have HO1 := Lib.hid ho1
  simp only [World.size_alloc] at HO1
  subst hv1
  clear hc hb1 ho1
  go_wp2
  have hK : Kpi (w.heap.size + 3) w1.heap.size w1 ((((w1.setCell ⟨w.heap.size + 1 + 1, 0, none⟩ (.slice va b.length vc)).setCell ⟨w.heap.size + 1 + 1, 1, none⟩ (.bool c)).setCell ⟨w.heap.size + 1, 0, none⟩ (.slice va b.length vc)).setCell ⟨w.heap.size + 1, 1, none⟩ (.bool c)) :=
    ⟨by simp [World.setCell], fun k g1 _ _ => (Below.heap_setCell _ _ _ _ (by simp; omega)).trans ((Below.heap_setCell _ _ _ _ (by simp; omega)).trans ((Below.heap_setCell _ _ _ _ (by simp; omega)).trans (Below.heap_setCell _ _ _ _ (by simp; omega))))⟩
  have hF := OwnRw.mono (OwnRw.keep HO1.out hK) (show w.heap.size ≤ w.heap.size + 1 + 1 + 1 by omega) hK.size
  refine bodyPost_ret (v := .agg #[.slice va b.length vc, .bool c]) (run_resCell (b := w.heap.size + 1) (o := 0) (cs := [.slice va b.length vc, .bool c]) rfl rfl Tryd.isAgg75 Tryd.sizeOf75 ?_) rfl ⟨_, rfl, hF, by (repeat' (first | with_reducible exact Below.refl _ _ | with_reducible assumption | with_reducible refine Below.setCell ?_ ?_ _ | with_reducible refine Below.alloc ?_ ?_ _ | with_reducible refine Below.drew ?_ | with_reducible refine belDrewN ?_ _ | with_reducible refine Below.trans ?_ (Below.mono (by assumption) ?_) | omega | (simp; omega) | (simp; done)))⟩
  intro j v hj
  have hr : (w1.cell? ⟨w.heap.size + 1, 0, none⟩).isSome = true ∧ (w1.cell? ⟨w.heap.size + 1, 1, none⟩).isSome = true := by simp [r0, r1]
  obtain ⟨s0, s1⟩ := hr
  clear r0 r1 q0 q1 a0 a1 hf hK hF
  match j, hj with
  | 0, hj => cases hj; simp [World.cell?_setCell_same', World.cell?_setCell_other, s0]
  | 1, hj => cases hj; simp [World.cell?_setCell_same', World.cell?_setCell_other, s1]
  | j + 2, hj => simp at hj
theorem sumTo_at {α : Type} {f : α → Nat} {l : List α} {k : Nat} {x : α} (hx : l[k]? = some x) : f x ≤ sumTo f l l.length := by
  have h1 := sumTo_succ (f := f) hx
  have hk := (List.getElem?_eq_some_iff.1 hx).1
  have h2 := sumTo_le f l (k + 1) (l.length - (k + 1))
  rw [show k + 1 + (l.length - (k + 1)) = l.length by omega] at h2
  omega
theorem bxN_bound {b : Bx} {N : Nat} (h : bxN b ≤ N) : b.length ≤ N ∧ ∀ (k : Nat) xs, b[k]? = some xs → xs.length ≤ N := by
  unfold bxN at h
  exact ⟨by omega, fun k xs hx => by have := sumTo_at (f := List.length) hx; omega⟩
theorem ftN_bound {fs : List Ft} {N : Nat} (h : ftN fs ≤ N) : fs.length ≤ N ∧ ∀ (k : Nat) f, fs[k]? = some f → bxN f.box ≤ N := by
  unfold ftN at h
  exact ⟨by omega, fun k f hx => by have := sumTo_at (f := fun f : Ft => bxN f.box) hx; omega⟩
def RetFs (fs : List Ft) (w : World) (e : Ending) (w' : World) : Prop := ∃ v, e = .returned v ∧ OwnFs w' w.heap.size w'.heap.size v fs ∧ Below w.heap.size w w'
theorem OwnFs.form {w : World} {lo hi : Nat} {v : Value} {fs : List Ft} (h : OwnFs w lo hi v fs) : ∃ a cap, v = .slice a fs.length cap ∧ fs.length ≤ cap ∧ cap ≤ maxLen := Fts.form h.fts
set_option maxHeartbeats 2000000 in
theorem toFlatS_any {lo : Nat} (b : List Ft) (v : Value) (w : World) (hs : Fts lo w v b) (hN : ftN b ≤ 1048576) :
    Calls Tryd.prog 17 #[v] w (RetFs b w) := by
  obtain ⟨a, cap, rfl, hlc, hcm⟩ := hs.form
  unfold maxLen at hcm
  obtain ⟨i0, hi, hz0, hz1, hz2⟩ := info_parts infoFt
  obtain ⟨hn, he⟩ := ftN_bound hN
  have HEE := Lib.hid he
  clear he hN
  go_enter Tryd.func17, Tryd.ntmps17
  go_wp2_with (at_make; refine wpList_make_full _ rfl _ _ 24 rfl w.heap.size 75 i0 _ 2 Tryd.underlying24 hi hz0 hz1 _ _ _ _ b.length rfl rfl rfl rfl ?b1 ?b2 ?b3 ?_)
  case b1 => rw [hz2]; omega
  case b2 => simp only [maxLen]; omega
  case b3 => omega
  intro w1 hown1 hgrow1
  have hb1 : Below w.heap.size w w1 := (Below.refl _ _).grown hgrow1 (Nat.le_refl _) (fun k hk => by cases hk)
  have HO1 := Lib.hid (show OwnSl w.heap.size 75 2 RF.enc w1 (.slice (some ⟨w.heap.size, 0, none⟩) b.length b.length) (List.replicate b.length (⟨.slice none 0 0, false⟩ : RF)) by unfold OwnSl; rw [List.length_replicate, ← madeFlat (sz := 2) (enc := RF.enc) (fun _ => rfl) (by omega) (.agg #[.slice none 0 0, .bool false]) (⟨.slice none 0 0, false⟩ : RF) rfl]; exact hown1)
  clear hown1 hgrow1
  generalize hnn : b.length = n at *
  have HN := Lib.hid hnn
  clear hnn
  have hzw1 : w.heap.size < w1.heap.size := by
    rcases OwnSl.form HO1.out with ⟨h, _⟩ | ⟨g, cp, h, _, h2, _⟩
    · cases h
    · obtain ⟨h3, _, _⟩ := Value.slice.inj h; cases h3; exact h2
  go_wp2_with fail
  go_loopw [4] (fun i wr => ∃ (k : Nat) (vs : List RF), k ≤ n ∧ i = .int .i64 k ∧ vs.length = k ∧ OwnSl w.heap.size 75 2 RF.enc wr (.slice (some ⟨w.heap.size, 0, none⟩) n n) (vs ++ List.replicate (n - k) (⟨.slice none 0 0, false⟩ : RF)) ∧ OwnC (PFt wr) (w.heap.size + 1) wr.heap.size vs (b.take k) ∧ Below w.heap.size w wr ∧ w.heap.size < wr.heap.size) (fun i _ => n - (intOf i).toNat)
  case atStart => exact ⟨0, [], by omega, rfl, rfl, by simpa using HO1.out, hzw1, hb1, hzw1⟩
  case round =>
    obtain ⟨k, vs, hk, rfl, hvs, hown, hC, hbr, hzw⟩ := hrel
    have HO := Lib.hid hown
    have HC := Lib.hid hC
    have HVS := Lib.hid hvs
    clear hown hC HO1 hb1 hzw1 hvs
    have hzr := hbr.size
    by_cases hlt : k < n
    · obtain ⟨f, hx⟩ : ∃ f, b[k]? = some f := ⟨_, List.getElem?_eq_getElem (by rw [HN.out]; exact hlt)⟩
      obtain ⟨b', o, sv, rfl, hbl, c0, c1, hsv⟩ := (hs.below hbr).at hx
      have HX := Lib.hid hx
      have i1 : (k : Int) < (n : Int) := by omega
      have i2 : (0 : Int) ≤ (k : Int) := by omega
      obtain ⟨hxl, hxe⟩ := bxN_bound (HEE.out k f hx)
      clear hx
      go_wp2_with fail
      refine (toFlat_any f sv _ hsv hxl hxe).mono ?_
      rintro e w2 ⟨v2, rfl, ho2, hb2⟩
      have HO2 := Lib.hid (OwnSl.kept HO.out hb2)
      have hz2' := hb2.size
      have hP2 : PFt w2 wr.heap.size w2.heap.size ⟨v2, f.acc⟩ f := ⟨ho2, rfl⟩
      have hC2 : OwnC (PFt w2) (w.heap.size + 1) wr.heap.size vs (b.take k) := OwnC.imp PFt.le HC.out (fun l h x y _ _ g3 => ⟨g3.1.keep (Kpi.of hb2), g3.2⟩)
      have hlen : (vs ++ List.replicate (n - k) (⟨.slice none 0 0, false⟩ : RF)).length = n := by simp [HVS.out]; omega
      have HL := Lib.hid hlen; clear hlen
      obtain ⟨hst, hgr⟩ := OwnSl.store (sz := 2) (enc := RF.enc) (fun _ => rfl) HL.out.symm HO2.out (k := k) (by rw [HL.out]; exact hlt) ⟨v2, f.acc⟩
      rw [set_rep vs n k _ ⟨v2, f.acc⟩ HVS.out hlt] at hst
      have hfz : ∀ j, w2.frozen? ⟨w.heap.size, j, none⟩ = false := OwnSl.frz HO2.out
      have hcz := OwnSl.cell (sz := 2) (enc := RF.enc) (fun _ => rfl) HO2.out (k := k) (y := (⟨.slice none 0 0, false⟩ : RF)) (by rw [List.getElem?_append_right (by rw [HVS.out]; exact Nat.le_refl _), HVS.out, Nat.sub_self, List.getElem?_replicate, if_pos (by omega)])
      have d0 := hcz 0 _ rfl
      have d1 := hcz 1 _ rfl
      simp only [Nat.add_zero, wSet] at d0 hst hgr
      obtain ⟨W3, hW3⟩ : ∃ W3, (w2.setCell ⟨w.heap.size, k * 2, none⟩ v2).setCell ⟨w.heap.size, k * 2 + 1, none⟩ (.bool f.acc) = W3 := ⟨_, rfl⟩
      rw [hW3] at hst hgr
      have hK : Kpi (w.heap.size + 1) wr.heap.size w2 W3 := ⟨hgr.size, fun j g1 _ g3 => hgr.block j g3 (by intro e; cases e; omega)⟩
      have hK' : Kpi wr.heap.size w2.heap.size w2 W3 := ⟨hgr.size, fun j g1 _ g3 => hgr.block j g3 (by intro e; cases e; omega)⟩
      have hC3 : OwnC (PFt W3) (w.heap.size + 1) W3.heap.size (vs ++ [⟨v2, f.acc⟩]) (b.take (k + 1)) := by
        rw [List.take_add_one, HX.out]
        refine OwnC.snoc (OwnC.imp PFt.le hC2 (fun l h x y g1 g2 g3 => ⟨g3.1.keep (hK.sub g1 g2), g3.2⟩)) (fun l hl => ?_) (Nat.le_trans hz2' hgr.size)
        exact ⟨OwnRw.mono (OwnRw.keep hP2.1 hK') hl hgr.size, rfl⟩
      have hbw : Below w.heap.size w W3 := (hbr.trans (hb2.mono hzr)).grown hgr (by omega) (fun k hk => by cases hk; omega)
      obtain ⟨va, vc, hv2, -, -⟩ := ho2.rws.form
      have hsz3 : w.heap.size < W3.heap.size := Nat.lt_of_lt_of_le (by omega) hgr.size
      have HST := Lib.hid hst
      have HC3 := Lib.hid hC3
      have HBW := Lib.hid hbw
      subst hv2
      clear hcz hst hgr hK hK' hC3 hbw hP2 hC2 ho2 hb2 hsv c0 c1 hs
      go_wp2
      go_roundw
      case rel => exact ⟨k + 1, _, by omega, by go_num, by simp [HVS.out], HST.out, HC3.out, HBW.out, hsz3⟩
      case measure => simp [intOf]; omega
    · have hkn : k = n := by omega
      subst hkn
      have HF := Lib.hid (show OwnFs wr w.heap.size wr.heap.size (.slice (some ⟨w.heap.size, 0, none⟩) k k) b from by
        have h1 := HO.out
        rw [Nat.sub_self, List.replicate_zero, List.append_nil] at h1
        have h2 := HC.out
        rw [List.take_of_length_le (by rw [HN.out]; exact Nat.le_refl _)] at h2
        exact ⟨vs, w.heap.size + 1, ⟨h1, fun x hx => by cases hx; exact Nat.lt_succ_self _, by omega⟩, h2⟩)
      go_wp2
      go_ret
      exact ⟨_, rfl, HF.out, hbr⟩
end Go.Proofs.YtibanpeiigbofaaDoor
