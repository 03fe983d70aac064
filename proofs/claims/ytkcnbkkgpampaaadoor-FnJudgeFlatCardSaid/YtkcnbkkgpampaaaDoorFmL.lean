/- Sets of numbers: the laws' own helpers. -/
import Derived.Test.YtkcnbkkgpampaaaDoorFmX
namespace Go.Proofs.YtkcnbkkgpampaaaDoor
open Go.RowKit
def Spz (w : World) (v : Value) (xs : List Sp) : Prop := SlAt 2 Sp.enc w v xs
theorem Spz.below {w w' : World} {v : Value} {xs : List Sp} (h : Spz w v xs) (hb : Below w.heap.size w w') : Spz w' v xs := SlAt.below h hb
theorem Sps.z {lo : Nat} {w : World} {v : Value} {xs : List Sp} (h : Sps lo w v xs) : Spz w v xs := SlFr.at h
theorem Spz.s {w : World} {v : Value} {xs : List Sp} (h : Spz w v xs) : Sps 0 w v xs := SlFr.of h
theorem Spz.at {w : World} {a : Option Addr} {n cap : Nat} {xs : List Sp} (h : Spz w (.slice a n cap) xs) {k : Nat} (hk : k < xs.length) :
    ∃ b o f1 f2, a = some ⟨b, o, none⟩ ∧ b < w.heap.size ∧ xs[k]? = some ⟨f1, f2⟩ ∧ w.cell? ⟨b, o + k * 2, none⟩ = some (.int .i64 f1) ∧ w.cell? ⟨b, o + k * 2 + 1, none⟩ = some (.int .i64 f2) := Sps.at h.s hk
theorem OwnSp.z {base : Nat} {w : World} {v : Value} {ys : List Sp} (h : OwnSp base w v ys) : Spz w v ys := OwnSl.at (sz := 2) (enc := Sp.enc) (fun _ => rfl) h
theorem Sp_eqd (a b c d : Int) : decide ((⟨a, b⟩ : Sp) = ⟨c, d⟩) = (decide (a = c) && decide (b = d)) := by
  by_cases h1 : a = c <;> by_cases h2 : b = d <;> simp [h1, h2]
set_option maxHeartbeats 400000 in
theorem eqSpan_b {f1 f2 g1 g2 : Int} {r : Bool} (h : decide ((⟨f1, f2⟩ : Sp) = ⟨g1, g2⟩) = r) (w : World) :
    Calls Tryd.prog 144 #[.agg #[.int .i64 f1, .int .i64 f2], .agg #[.int .i64 g1, .int .i64 g2]] w fun e w' => e = .returned (.bool r) ∧ Below w.heap.size w w' := by
  subst h
  go_enter Tryd.func144, Tryd.ntmps144
  go_wp2
  all_goals (go_ret; refine ⟨ret_bool ?_, by (repeat' (first | with_reducible exact Below.refl _ _ | with_reducible assumption | with_reducible refine Below.setCell ?_ ?_ _ | with_reducible refine Below.alloc ?_ ?_ _ | with_reducible refine Below.drew ?_ | with_reducible refine belDrewN ?_ _ | with_reducible refine Below.trans ?_ (Below.mono (by assumption) ?_) | omega | (simp; omega) | (simp; done)))⟩)
  all_goals (by_cases e1 : f1 = g1 <;> by_cases e2 : f2 = g2 <;> simp_all)
set_option maxHeartbeats 400000 in
theorem toSpan_any (a b : Int) (w : World) :
    Calls Tryd.prog 141 #[.agg #[.int .i64 a, .int .i64 b]] w fun e w' => e = .returned (.agg #[.int .i64 a, .int .i64 b]) ∧ Below w.heap.size w w' := by
  go_enter Tryd.func141, Tryd.ntmps141
  go_wp2
  exact bodyPost_ret (v := .agg #[.int .i64 a, .int .i64 b]) (by simp [results, Tryd.results141, go_sem]) rfl ⟨rfl, by (repeat' (first | with_reducible exact Below.refl _ _ | with_reducible assumption | with_reducible refine Below.setCell ?_ ?_ _ | with_reducible refine Below.alloc ?_ ?_ _ | with_reducible refine Below.drew ?_ | with_reducible refine belDrewN ?_ _ | with_reducible refine Below.trans ?_ (Below.mono (by assumption) ?_) | omega | (simp; omega) | (simp; done)))⟩
def SpmarkAt (k : Nat) (i : Nat) : Sp := ⟨((k + 2 * i + 0 : Nat) : Int), ((k + 2 * i + 1 : Nat) : Int)⟩
def Spmarks (k n : Nat) : List Sp := (List.range n).map (SpmarkAt k)
theorem Spmarks_get {k n i : Nat} (h : i < n) : (Spmarks k n)[i]? = some (SpmarkAt k i) := by simp [Spmarks, h]
set_option maxHeartbeats 1000000 in
theorem toSpanS_any (xs : List Sp) (v : Value) (w : World) (hs : Spz w v xs) (hn : xs.length ≤ 1048576) : Calls Tryd.prog 132 #[v] w (RetSp xs w) := by
  obtain ⟨a, cap, rfl, hlc, hcm, -⟩ := id hs
  unfold maxLen at hcm
  obtain ⟨i0, hi, hz0, hz1, hz2⟩ := info_parts infoSp
  go_enter Tryd.func132, Tryd.ntmps132
  go_wp2_with (at_make; refine wpList_make_full _ rfl _ _ 100 rfl w.heap.size 113 i0 _ 2 Tryd.underlying100 hi hz0 hz1 _ _ _ _ xs.length rfl rfl rfl rfl ?b1 ?b2 ?b3 ?_)
  case b1 => rw [hz2]; omega
  case b2 => simp only [maxLen]; omega
  case b3 => omega
  intro w1 hown1 hgrow1
  have hb1 : Below w.heap.size w w1 := (Below.refl _ _).grown hgrow1 (Nat.le_refl _) (fun k hk => by cases hk)
  have HO1 := Lib.hid (show OwnSp w.heap.size w1 (.slice (some ⟨w.heap.size, 0, none⟩) xs.length xs.length) (List.replicate xs.length (⟨0, 0⟩ : Sp)) by unfold OwnSp OwnSl; rw [List.length_replicate, ← madeFlat (sz := 2) (enc := Sp.enc) (fun _ => rfl) (by omega) (.agg #[.int .i64 0, .int .i64 0]) ⟨0, 0⟩ rfl]; exact hown1)
  clear hown1 hgrow1
  go_wp2_with fail
  go_loopw [4] (fun i wr => ∃ k : Nat, k ≤ xs.length ∧ i = .int .i64 k ∧ OwnSp w.heap.size wr (.slice (some ⟨w.heap.size, 0, none⟩) xs.length xs.length) (xs.take k ++ List.replicate (xs.length - k) (⟨0, 0⟩ : Sp)) ∧ Below w.heap.size w wr) (fun i _ => xs.length - (intOf i).toNat)
  case atStart => exact ⟨0, by omega, rfl, by simpa using HO1.out, hb1⟩
  case round =>
    obtain ⟨k, hk, rfl, hown, hbr⟩ := hrel
    have HO := Lib.hid hown; clear hown HO1 hb1
    have hs2 := Lib.hid (hs.below hbr)
    have hzr := hbr.size
    by_cases hlt : k < xs.length
    · obtain ⟨b, o, f1, f2, rfl, hbl, hx, c0, c1⟩ := hs2.out.at hlt
      have HX := Lib.hid hx; clear hx
      have hgb : w.heap.size < wr.heap.size := by
        rcases OwnSl.form HO.out with ⟨h, _⟩ | ⟨g, cp, h, _, h2, _⟩
        · cases h
        · obtain ⟨h3, _, _⟩ := Value.slice.inj h; cases h3; exact h2
      go_wp2_with fail
      refine (toSpan_any _ _ _).mono ?_
      rintro e w2 ⟨rfl, hb2⟩
      have HO2 := Lib.hid (OwnSl.kept HO.out hb2)
      have hz2' := hb2.size
      have hlen : (xs.take k ++ List.replicate (xs.length - k) (⟨0, 0⟩ : Sp)).length = xs.length := by simp; omega
      have HL := Lib.hid hlen; clear hlen
      obtain ⟨hst, hgr⟩ := OwnSl.store (sz := 2) (enc := Sp.enc) (fun _ => rfl) HL.out.symm HO2.out (k := k) (by rw [HL.out]; exact hlt) (⟨f1, f2⟩ : Sp)
      have HST := Lib.hid hst; have HGR := Lib.hid hgr; clear hst hgr
      have hfz : ∀ j, w2.frozen? ⟨w.heap.size, j, none⟩ = false := OwnSl.frz HO2.out
      have hcz := OwnSl.cell (sz := 2) (enc := Sp.enc) (fun _ => rfl) HO2.out (k := k) (y := (⟨0, 0⟩ : Sp)) (by rw [List.getElem?_append_right (List.length_take_le _ _), List.length_take, Nat.min_eq_left hk, Nat.sub_self, List.getElem?_replicate, if_pos (by omega)])
      have d0 := hcz 0 _ rfl; have d1 := hcz 1 _ rfl
      simp only [Nat.add_zero] at d0
      clear hcz c0 c1
      go_wp2
      go_roundw
      case rel =>
        refine ⟨k + 1, by omega, by go_num, ?_, ?_⟩
        · have e1 : (xs.take k ++ List.replicate (xs.length - k) (⟨0, 0⟩ : Sp)).set k ⟨f1, f2⟩ = xs.take (k + 1) ++ List.replicate (xs.length - (k + 1)) ⟨0, 0⟩ := by
            rw [List.set_append_right _ _ (by simp; omega), List.take_add_one, HX.out, List.append_assoc]
            refine congrArg (xs.take k ++ ·) ?_
            rw [show xs.length - k = (xs.length - (k + 1)) + 1 from by omega, List.replicate_succ, List.length_take, Nat.min_eq_left hk]
            simp
          rw [← e1]
          exact HST.out
        · exact (hbr.trans (hb2.mono (by omega))).grown HGR.out (by omega) (fun k hk => by cases hk; omega)
      case measure => simp [intOf]; omega
    · have HE := Lib.hid (show k = xs.length by omega)
      go_wp2
      go_ret
      refine ⟨_, rfl, ?_, hbr⟩
      have := HO.out
      rw [HE.out] at this
      simpa using this
set_option maxHeartbeats 400000 in
theorem szSpanS_any (a : Option Addr) (n cap : Nat) (l : Int) (hn : (n : Int) ≤ 9223372036854775807) (h0 : 0 ≤ l) (h1 : l ≤ 9223372036854775807) (w : World) : Calls Tryd.prog 131 #[.slice a n cap, .int .i64 l] w fun e w' => e = .returned (.int .i64 (if l < n then -1 else l - n)) ∧ w = w' := by
  by_cases h : l < n
  · rw [if_pos h]
    go_enter Tryd.func131, Tryd.ntmps131
    go_wp2
    go_ret
    exact ⟨rfl, rfl⟩
  · rw [if_neg h]
    go_enter Tryd.func131, Tryd.ntmps131
    go_wp2
    go_ret
    exact ⟨rfl, rfl⟩
set_option maxHeartbeats 1000000 in
theorem eqSpanS_any (xs ys : List Sp) (v u : Value) (w : World) (hs : Spz w v xs) (hu : Spz w u ys) : Calls Tryd.prog 134 #[v, u] w fun e w' => e = .returned (.bool (decide (xs = ys))) ∧ Below w.heap.size w w' := by
  obtain ⟨a, cap, rfl, hlc, hcm, -⟩ := id hs
  obtain ⟨a', cap', rfl, hlc', hcm', -⟩ := id hu
  unfold maxLen at hcm hcm'
  by_cases hne : xs.length = ys.length
  · have HN := Lib.hid hne; clear hne
    obtain ⟨m, hm⟩ : ∃ m, ys.length = m := ⟨_, rfl⟩
    have hm2 : m = xs.length := by rw [← hm]; exact HN.out.symm
    rw [hm, hm2]
    have HM := Lib.hid hm; have HM2 := Lib.hid hm2; clear hm hm2
    go_enter Tryd.func134, Tryd.ntmps134
    go_wp2_with fail
    go_loopw [5] (fun i wr => ∃ k : Nat, k ≤ xs.length ∧ i = .int .i64 k ∧ xs.take k = ys.take k ∧ Below w.heap.size w wr) (fun i _ => xs.length - (intOf i).toNat)
    case atStart => exact ⟨0, by omega, rfl, rfl, by (repeat' (first | with_reducible exact Below.refl _ _ | with_reducible assumption | with_reducible refine Below.setCell ?_ ?_ _ | with_reducible refine Below.alloc ?_ ?_ _ | with_reducible refine Below.drew ?_ | with_reducible refine belDrewN ?_ _ | with_reducible refine Below.trans ?_ (Below.mono (by assumption) ?_) | omega | (simp; omega) | (simp; done)))⟩
    case round =>
      obtain ⟨k, hk, rfl, hq, hbr⟩ := hrel
      have HQ := Lib.hid hq; clear hq
      have hs2 := Lib.hid (hs.below hbr); have hu2 := Lib.hid (hu.below hbr)
      have hzr := hbr.size
      by_cases hlt : k < xs.length
      · have hu3 := hu2.out; rw [HM.out, HM2.out] at hu3
        obtain ⟨b, o, f1, f2, rfl, hbl, hx, c0, c1⟩ := hs2.out.at hlt
        obtain ⟨b', o', g1, g2, rfl, hbl', hy, d0, d1⟩ := hu3.at (show k < ys.length by rw [HM.out, HM2.out]; exact hlt)
        have HX := Lib.hid hx; have HY := Lib.hid hy; clear hx hy hu3
        have i1 : (k : Int) < (xs.length : Int) := by omega
        by_cases he : (⟨f1, f2⟩ : Sp) = ⟨g1, g2⟩
        · have HE := Lib.hid he; clear he
          go_wp2_with fail
          refine wp_region_over (by kernel_rfl) (by kernel_rfl) (fun ov => ?_); have ov0 := fun x => ov x (b) (by (try simp) <;> omega); have ov1 := fun x => ov x (b') (by (try simp) <;> omega); clear ov; (repeat (go_big_quiet_step (first | (go_at_call 144; exact callsOver (eqSpan_b (decide_eq_true HE.out) _))))); refine wpQuiet_nil ?_; intro w9 hw9; have hb_w9 := below_over hw9; clear hw9 ov0 ov1
          go_wp2
          go_roundw
          case rel => exact ⟨k + 1, by omega, by go_num, by rw [List.take_add_one, List.take_add_one, HQ.out, HX.out, HY.out, HE.out], by (repeat' (first | with_reducible exact Below.refl _ _ | with_reducible assumption | with_reducible refine Below.setCell ?_ ?_ _ | with_reducible refine Below.alloc ?_ ?_ _ | with_reducible refine Below.drew ?_ | with_reducible refine belDrewN ?_ _ | with_reducible refine Below.trans ?_ (Below.mono (by assumption) ?_) | omega | (simp; omega) | (simp; done)))⟩
          case measure => simp [intOf]; omega
        · have HE := Lib.hid he; clear he
          go_wp2_with fail
          refine wp_region_over (by kernel_rfl) (by kernel_rfl) (fun ov => ?_); have ov0 := fun x => ov x (b) (by (try simp) <;> omega); have ov1 := fun x => ov x (b') (by (try simp) <;> omega); clear ov; (repeat (go_big_quiet_step (first | (go_at_call 144; exact callsOver (eqSpan_b (decide_eq_false HE.out) _))))); refine wpQuiet_nil ?_; intro w9 hw9; have hb_w9 := below_over hw9; clear hw9 ov0 ov1
          go_wp2
          go_ret
          exact ⟨ret_bool (decide_eq_false (fun h => HE.out (by have h1 := HX.out; have h2 := HY.out; rw [h, h2] at h1; exact (Option.some.inj h1).symm))).symm, by (repeat' (first | with_reducible exact Below.refl _ _ | with_reducible assumption | with_reducible refine Below.setCell ?_ ?_ _ | with_reducible refine Below.alloc ?_ ?_ _ | with_reducible refine Below.drew ?_ | with_reducible refine belDrewN ?_ _ | with_reducible refine Below.trans ?_ (Below.mono (by assumption) ?_) | omega | (simp; omega) | (simp; done)))⟩
      · have HE := Lib.hid (show k = xs.length by omega)
        go_wp2
        go_ret
        exact ⟨ret_bool (decide_eq_true (by have := HQ.out; rw [HE.out, List.take_length, ← HM2.out, ← HM.out, List.take_length] at this; exact this)).symm, by (repeat' (first | with_reducible exact Below.refl _ _ | with_reducible assumption | with_reducible refine Below.setCell ?_ ?_ _ | with_reducible refine Below.alloc ?_ ?_ _ | with_reducible refine Below.drew ?_ | with_reducible refine belDrewN ?_ _ | with_reducible refine Below.trans ?_ (Below.mono (by assumption) ?_) | omega | (simp; omega) | (simp; done)))⟩
  · have HN := Lib.hid (decide_eq_false (fun h : xs = ys => hne (by rw [h])))
    have hb : ((xs.length : Int) == (ys.length : Int)) = false := by simpa using (by omega : (xs.length : Int) ≠ ys.length)
    clear hne
    go_enter Tryd.func134, Tryd.ntmps134
    go_wp2
    go_ret
    exact ⟨ret_bool HN.out.symm, by (repeat' (first | with_reducible exact Below.refl _ _ | with_reducible assumption | with_reducible refine Below.setCell ?_ ?_ _ | with_reducible refine Below.alloc ?_ ?_ _ | with_reducible refine Below.drew ?_ | with_reducible refine belDrewN ?_ _ | with_reducible refine Below.trans ?_ (Below.mono (by assumption) ?_) | omega | (simp; omega) | (simp; done)))⟩
theorem eqSpanS_b {xs ys : List Sp} {v u : Value} {w : World} {r : Bool} (hs : Spz w v xs) (hu : Spz w u ys) (h : decide (xs = ys) = r) : Calls Tryd.prog 134 #[v, u] w fun e w' => e = .returned (.bool r) ∧ Below w.heap.size w w' := by
  subst h
  exact eqSpanS_any xs ys v u w hs hu
set_option maxHeartbeats 2000000 in
theorem markSpanS_any (base : Nat) (xs : List Sp) (v : Value) (m : Nat) (w : World) (ho : OwnSp base w v xs) (hn : xs.length ≤ 1048576) (hm : m ≤ 8388608) : Calls Tryd.prog 108 #[v, .int .i64 (m : Int)] w fun e w' => e = .returned (.int .i64 ((m + 2 * xs.length : Nat) : Int)) ∧ OwnSp base w' v (Spmarks m xs.length) ∧ w.grownBy w' v.ownBlock := by
  rcases OwnSl.form ho with ⟨rfl, rfl⟩ | ⟨g, cap, rfl, hg, hgs, hlc, hcm, -⟩
  · go_enter Tryd.func108, Tryd.ntmps108
    go_wp2_with fail
    go_loopw [1, 5] (fun q i wr => q = .int .i64 (m : Int) ∧ i = .int .i64 0 ∧ wr = w) (fun _ _ _ => 0)
    case atStart => exact ⟨rfl, rfl, rfl⟩
    case round =>
      obtain ⟨rfl, rfl, rfl⟩ := hrel
      go_wp2
      go_ret
      exact ⟨rfl, ho, World.grownBy.refl _ _⟩
  · unfold maxLen at hcm
    go_enter Tryd.func108, Tryd.ntmps108
    go_wp2_with fail
    go_loopw [1, 5] (fun q i wr => ∃ k : Nat, k ≤ xs.length ∧ i = .int .i64 k ∧ q = .int .i64 ((m + 2 * k : Nat) : Int) ∧ OwnSp base wr (.slice (some ⟨g, 0, none⟩) xs.length cap) (Spmarks m k ++ xs.drop k) ∧ w.grownBy wr (some g)) (fun _ i _ => xs.length - (intOf i).toNat)
    case atStart => exact ⟨0, by omega, rfl, rfl, by simpa [Spmarks] using ho, World.grownBy.refl _ _⟩
    case round =>
      obtain ⟨k, hk, rfl, rfl, hown, hgr⟩ := hrel
      have HO := Lib.hid hown; have HG := Lib.hid hgr; clear hown hgr
      have hgb := HG.out.size
      by_cases hlt : k < xs.length
      · have HL := Lib.hid (show (Spmarks m k ++ xs.drop k).length = xs.length by simp [Spmarks]; omega)
        obtain ⟨f1, f2, hx⟩ : ∃ f1 f2, xs[k]? = some (⟨f1, f2⟩ : Sp) := ⟨_, _, List.getElem?_eq_getElem hlt⟩
        have HX := Lib.hid hx; clear hx
        obtain ⟨hst, hgr⟩ := OwnSl.store (sz := 2) (enc := Sp.enc) (fun _ => rfl) HL.out.symm HO.out (k := k) (by rw [HL.out]; exact hlt) (SpmarkAt m k)
        have HST := Lib.hid hst; have HGR := Lib.hid hgr; clear hst hgr
        have hfz : ∀ j, wr.frozen? ⟨g, j, none⟩ = false := OwnSl.frz HO.out
        have hcz := OwnSl.cell (sz := 2) (enc := Sp.enc) (fun _ => rfl) HO.out (k := k) (y := (⟨f1, f2⟩ : Sp)) (by rw [List.getElem?_append_right (by simp [Spmarks])]; simp [Spmarks]; exact HX.out)
        have d0 := hcz 0 _ rfl; have d1 := hcz 1 _ rfl
        simp only [Nat.add_zero] at d0
        clear hcz
        go_wp2
        go_roundw
        case rel =>
          refine ⟨k + 1, by omega, by go_num, by go_num, ?_, ?_⟩
          · have e1 : (Spmarks m k ++ xs.drop k).set k (SpmarkAt m k) = Spmarks m (k + 1) ++ xs.drop (k + 1) := by
              have e0 : (xs.drop k).set 0 (SpmarkAt m k) = SpmarkAt m k :: xs.drop (k + 1) := by rw [List.drop_eq_getElem_cons hlt, List.set_cons_zero]
              rw [List.set_append_right _ _ (by simp [Spmarks])]
              simp [Spmarks, List.range_succ, e0]
            rw [← e1]
            have e2 := HST.out
            simp only [wSet, SpmarkAt] at e2
            refine cast ?_ e2
            first | rfl | (congr 1 <;> (repeat (first | rfl | omega | congr 1)))
          · have e2 := HGR.out
            simp only [wSet, SpmarkAt] at e2
            refine ⟨?_, ?_, ?_, ?_, ?_⟩
            · exact HG.out.os
            · exact HG.out.tape
            · exact HG.out.output
            · simp; omega
            · intro q hq hne
              have hne' : q ≠ g := fun e => hne (by rw [e])
              simp [Below.heap_setCell, hne']
              exact HG.out.block q hq hne
        case measure => simp [intOf]; omega
      · have HE := Lib.hid (show k = xs.length by omega)
        go_wp2
        go_ret
        refine ⟨ret_int (by rw [HE.out]), ?_, HG.out⟩
        have := HO.out
        rw [HE.out, List.drop_length, List.append_nil] at this
        exact this
set_option maxHeartbeats 1000000 in
theorem heldSpanS_any (n : Nat) (v : Value) (m : Nat) (w : World) (hs : Spz w v (Spmarks m n)) (hn : n ≤ 1048576) (hm : m ≤ 8388608) : Calls Tryd.prog 109 #[v, .int .i64 (m : Int)] w fun e w' => e = .returned (.int .i64 ((m + 2 * n : Nat) : Int)) ∧ w = w' := by
  obtain ⟨a, cap, rfl, hlc, hcm, -⟩ := id hs
  have hl : (Spmarks m n).length = n := by simp [Spmarks]
  rw [hl] at hs hlc ⊢
  have HL := Lib.hid hl; clear hl
  unfold maxLen at hcm
  go_enter Tryd.func109, Tryd.ntmps109
  go_wp2_with fail
  go_loop [1, 5] (fun q i => ∃ k : Nat, k ≤ n ∧ i = .int .i64 k ∧ q = .int .i64 ((m + 2 * k : Nat) : Int)) (fun _ i => n - (intOf i).toNat)
  case atStart => exact ⟨0, by omega, rfl, rfl⟩
  case round =>
    obtain ⟨k, hk, rfl, rfl⟩ := hrel
    by_cases hlt : k < n
    · obtain ⟨b, o, f1, f2, rfl, hbl, hx, c0, c1⟩ := hs.at (show k < (Spmarks m n).length by rw [HL.out]; exact hlt)
      rw [Spmarks_get hlt] at hx
      cases hx
      go_wp2
      all_goals first | (exfalso; omega) | skip
      go_round
      case rel => exact ⟨k + 1, by omega, by go_num, by go_num⟩
      case measure => simp [intOf]; omega
    · have HE := Lib.hid (show k = n by omega)
      go_wp2
      go_ret
      exact ⟨ret_int (by rw [HE.out]), rfl⟩
end Go.Proofs.YtkcnbkkgpampaaaDoor
