/- Walks on sets and boxes, second part. -/
import Derived.Test.YtfcbbahlhjdefaaGreatDoorFmA
namespace Go.Proofs.YtfcbbahlhjdefaaGreatDoor
open Go.RowKit
def Spz (w : World) (v : Value) (xs : List Sp) : Prop := SlAt 2 Sp.enc w v xs
theorem Spz.below {w w' : World} {v : Value} {xs : List Sp} (h : Spz w v xs) (hb : Below w.heap.size w w') : Spz w' v xs := SlAt.below h hb
theorem Sps.z {lo : Nat} {w : World} {v : Value} {xs : List Sp} (h : Sps lo w v xs) : Spz w v xs := SlFr.at h
theorem Spz.s {w : World} {v : Value} {xs : List Sp} (h : Spz w v xs) : Sps 0 w v xs := SlFr.of h
theorem Spz.at {w : World} {a : Option Addr} {n cap : Nat} {xs : List Sp} (h : Spz w (.slice a n cap) xs) {k : Nat} (hk : k < xs.length) :
    ∃ b o f1 f2, a = some ⟨b, o, none⟩ ∧ b < w.heap.size ∧ xs[k]? = some ⟨f1, f2⟩ ∧ w.cell? ⟨b, o + k * 2, none⟩ = some (.int .i64 f1) ∧ w.cell? ⟨b, o + k * 2 + 1, none⟩ = some (.int .i64 f2) := Sps.at h.s hk
theorem OwnSp.z {base : Nat} {w : World} {v : Value} {ys : List Sp} (h : OwnSp base w v ys) : Spz w v ys := OwnSl.at (sz := 2) (enc := Sp.enc) (fun _ => rfl) h
set_option maxHeartbeats 400000 in
theorem eqSpan_b {f1 f2 g1 g2 : Int} {r : Bool} (h : decide ((⟨f1, f2⟩ : Sp) = ⟨g1, g2⟩) = r) (w : World) :
    Calls Tryz.prog 136 #[.agg #[.int .i64 f1, .int .i64 f2], .agg #[.int .i64 g1, .int .i64 g2]] w fun e w' => e = .returned (.bool r) ∧ Below w.heap.size w w' := by
  subst h
  go_enter Tryz.func136, Tryz.ntmps136
  go_wp2
  all_goals (go_ret; refine ⟨ret_bool ?_, by (repeat' (first | with_reducible exact Below.refl _ _ | with_reducible assumption | with_reducible refine Below.setCell ?_ ?_ _ | with_reducible refine Below.alloc ?_ ?_ _ | with_reducible refine Below.drew ?_ | with_reducible refine belDrewN ?_ _ | with_reducible refine Below.trans ?_ (Below.mono (by assumption) ?_) | omega | (simp; omega) | (simp; done)))⟩)
  all_goals (by_cases e1 : f1 = g1 <;> by_cases e2 : f2 = g2 <;> simp_all)
def SpmarkAt (k : Nat) (i : Nat) : Sp := ⟨((k + 2 * i + 0 : Nat) : Int), ((k + 2 * i + 1 : Nat) : Int)⟩
def Spmarks (k n : Nat) : List Sp := (List.range n).map (SpmarkAt k)
theorem Spmarks_get {k n i : Nat} (h : i < n) : (Spmarks k n)[i]? = some (SpmarkAt k i) := by simp [Spmarks, h]
set_option maxHeartbeats 1000000 in
theorem eqSpanS_any (xs ys : List Sp) (v u : Value) (w : World) (hs : Spz w v xs) (hu : Spz w u ys) : Calls Tryz.prog 129 #[v, u] w fun e w' => e = .returned (.bool (decide (xs = ys))) ∧ Below w.heap.size w w' := by
  obtain ⟨a, cap, rfl, hlc, hcm, -⟩ := id hs
  obtain ⟨a', cap', rfl, hlc', hcm', -⟩ := id hu
  unfold maxLen at hcm hcm'
  by_cases hne : xs.length = ys.length
  · have HN := Lib.hid hne; clear hne
    obtain ⟨m, hm⟩ : ∃ m, ys.length = m := ⟨_, rfl⟩
    have hm2 : m = xs.length := by rw [← hm]; exact HN.out.symm
    rw [hm, hm2]
    have HM := Lib.hid hm; have HM2 := Lib.hid hm2; clear hm hm2
    go_enter Tryz.func129, Tryz.ntmps129
    go_wp2_with fail
    go_loopw [5] (fun i wr => ∃ k : Nat, k ≤ xs.length ∧ i = .int .i64 k ∧ xs.take k = ys.take k ∧ Below w.heap.size w wr) (fun i _ => xs.length - (intOf i).toNat)
    case atStart => exact ⟨0, by omega, rfl, rfl, by (repeat' (first | with_reducible exact Below.refl _ _ | with_reducible assumption | with_reducible refine Below.setCell ?_ ?_ _ | with_reducible refine Below.alloc ?_ ?_ _ | with_reducible refine Below.drew ?_ | with_reducible refine belDrewN ?_ _ | with_reducible refine Below.trans ?_ (Below.mono (by assumption) ?_) | omega | (simp; omega) | (simp; done)))⟩
    case round =>
      obtain ⟨k, hk, rfl, hq, hbr⟩ := hrel
      have HQ := Lib.hid hq; clear hq
      have hs2 := Lib.hid (hs.below hbr); have hu2 := Lib.hid (hu.below hbr)
      have hzr := hbr.size
      by_cases hlt : k < xs.length
      · have hu3 := hu2.out; rw [HM.out, HM2.out] at hu3
        obtain ⟨b, o, f1, f2, rfl, hbl, hx, c0, c1⟩ := hs2.out.at hlt
        obtain ⟨b', o', g1, g2, rfl, hbl', hy, d0, d1⟩ := hu3.at (show k < ys.length by rw [HM.out, HM2.out]; exact hlt)
        have HX := Lib.hid hx; have HY := Lib.hid hy; clear hx hy hu3
        have i1 : (k : Int) < (xs.length : Int) := by omega
        by_cases he : (⟨f1, f2⟩ : Sp) = ⟨g1, g2⟩
        · have HE := Lib.hid he; clear he
          go_wp2_with fail
          refine wp_region_over (by kernel_rfl) (by kernel_rfl) (fun ov => ?_); have ov0 := fun x => ov x (b) (by (try simp) <;> omega); have ov1 := fun x => ov x (b') (by (try simp) <;> omega); clear ov; (repeat (go_big_quiet_step (first | (go_at_call 136; exact callsOver (eqSpan_b (decide_eq_true HE.out) _))))); refine wpQuiet_nil ?_; intro w9 hw9; have hb_w9 := below_over hw9; clear hw9 ov0 ov1
          go_wp2
          go_roundw
          case rel => exact ⟨k + 1, by omega, by go_num, by rw [List.take_add_one, List.take_add_one, HQ.out, HX.out, HY.out, HE.out], by (repeat' (first | with_reducible exact Below.refl _ _ | with_reducible assumption | with_reducible refine Below.setCell ?_ ?_ _ | with_reducible refine Below.alloc ?_ ?_ _ | with_reducible refine Below.drew ?_ | with_reducible refine belDrewN ?_ _ | with_reducible refine Below.trans ?_ (Below.mono (by assumption) ?_) | omega | (simp; omega) | (simp; done)))⟩
          case measure => simp [intOf]; omega
        · have HE := Lib.hid he; clear he
          go_wp2_with fail
          refine wp_region_over (by kernel_rfl) (by kernel_rfl) (fun ov => ?_); have ov0 := fun x => ov x (b) (by (try simp) <;> omega); have ov1 := fun x => ov x (b') (by (try simp) <;> omega); clear ov; (repeat (go_big_quiet_step (first | (go_at_call 136; exact callsOver (eqSpan_b (decide_eq_false HE.out) _))))); refine wpQuiet_nil ?_; intro w9 hw9; have hb_w9 := below_over hw9; clear hw9 ov0 ov1
          go_wp2
          go_ret
          exact ⟨ret_bool (decide_eq_false (fun h => HE.out (by have h1 := HX.out; have h2 := HY.out; rw [h, h2] at h1; exact (Option.some.inj h1).symm))).symm, by (repeat' (first | with_reducible exact Below.refl _ _ | with_reducible assumption | with_reducible refine Below.setCell ?_ ?_ _ | with_reducible refine Below.alloc ?_ ?_ _ | with_reducible refine Below.drew ?_ | with_reducible refine belDrewN ?_ _ | with_reducible refine Below.trans ?_ (Below.mono (by assumption) ?_) | omega | (simp; omega) | (simp; done)))⟩
      · have HE := Lib.hid (show k = xs.length by omega)
        go_wp2
        go_ret
        exact ⟨ret_bool (decide_eq_true (by have := HQ.out; rw [HE.out, List.take_length, ← HM2.out, ← HM.out, List.take_length] at this; exact this)).symm, by (repeat' (first | with_reducible exact Below.refl _ _ | with_reducible assumption | with_reducible refine Below.setCell ?_ ?_ _ | with_reducible refine Below.alloc ?_ ?_ _ | with_reducible refine Below.drew ?_ | with_reducible refine belDrewN ?_ _ | with_reducible refine Below.trans ?_ (Below.mono (by assumption) ?_) | omega | (simp; omega) | (simp; done)))⟩
  · have HN := Lib.hid (decide_eq_false (fun h : xs = ys => hne (by rw [h])))
    have hb : ((xs.length : Int) == (ys.length : Int)) = false := by simpa using (by omega : (xs.length : Int) ≠ ys.length)
    clear hne
    go_enter Tryz.func129, Tryz.ntmps129
    go_wp2
    go_ret
    exact ⟨ret_bool HN.out.symm, by (repeat' (first | with_reducible exact Below.refl _ _ | with_reducible assumption | with_reducible refine Below.setCell ?_ ?_ _ | with_reducible refine Below.alloc ?_ ?_ _ | with_reducible refine Below.drew ?_ | with_reducible refine belDrewN ?_ _ | with_reducible refine Below.trans ?_ (Below.mono (by assumption) ?_) | omega | (simp; omega) | (simp; done)))⟩
theorem eqSpanS_b {xs ys : List Sp} {v u : Value} {w : World} {r : Bool} (hs : Spz w v xs) (hu : Spz w u ys) (h : decide (xs = ys) = r) : Calls Tryz.prog 129 #[v, u] w fun e w' => e = .returned (.bool r) ∧ Below w.heap.size w w' := by
  subst h
  exact eqSpanS_any xs ys v u w hs hu
set_option maxHeartbeats 2000000 in
theorem markSpanS_any (base : Nat) (xs : List Sp) (v : Value) (m : Nat) (w : World) (ho : OwnSp base w v xs) (hn : xs.length ≤ 1048576) (hm : m ≤ 8388608) : Calls Tryz.prog 87 #[v, .int .i64 (m : Int)] w fun e w' => e = .returned (.int .i64 ((m + 2 * xs.length : Nat) : Int)) ∧ OwnSp base w' v (Spmarks m xs.length) ∧ w.grownBy w' v.ownBlock := by
  rcases OwnSl.form ho with ⟨rfl, rfl⟩ | ⟨g, cap, rfl, hg, hgs, hlc, hcm, -⟩
  · go_enter Tryz.func87, Tryz.ntmps87
    go_wp2_with fail
    go_loopw [1, 5] (fun q i wr => q = .int .i64 (m : Int) ∧ i = .int .i64 0 ∧ wr = w) (fun _ _ _ => 0)
    case atStart => exact ⟨rfl, rfl, rfl⟩
    case round =>
      obtain ⟨rfl, rfl, rfl⟩ := hrel
      go_wp2
      go_ret
      exact ⟨rfl, ho, World.grownBy.refl _ _⟩
  · unfold maxLen at hcm
    go_enter Tryz.func87, Tryz.ntmps87
    go_wp2_with fail
    go_loopw [1, 5] (fun q i wr => ∃ k : Nat, k ≤ xs.length ∧ i = .int .i64 k ∧ q = .int .i64 ((m + 2 * k : Nat) : Int) ∧ OwnSp base wr (.slice (some ⟨g, 0, none⟩) xs.length cap) (Spmarks m k ++ xs.drop k) ∧ w.grownBy wr (some g)) (fun _ i _ => xs.length - (intOf i).toNat)
    case atStart => exact ⟨0, by omega, rfl, rfl, by simpa [Spmarks] using ho, World.grownBy.refl _ _⟩
    case round =>
      obtain ⟨k, hk, rfl, rfl, hown, hgr⟩ := hrel
      have HO := Lib.hid hown; have HG := Lib.hid hgr; clear hown hgr
      have hgb := HG.out.size
      by_cases hlt : k < xs.length
      · have HL := Lib.hid (show (Spmarks m k ++ xs.drop k).length = xs.length by simp [Spmarks]; omega)
        obtain ⟨f1, f2, hx⟩ : ∃ f1 f2, xs[k]? = some (⟨f1, f2⟩ : Sp) := ⟨_, _, List.getElem?_eq_getElem hlt⟩
        have HX := Lib.hid hx; clear hx
        obtain ⟨hst, hgr⟩ := OwnSl.store (sz := 2) (enc := Sp.enc) (fun _ => rfl) HL.out.symm HO.out (k := k) (by rw [HL.out]; exact hlt) (SpmarkAt m k)
        have HST := Lib.hid hst; have HGR := Lib.hid hgr; clear hst hgr
        have hfz : ∀ j, wr.frozen? ⟨g, j, none⟩ = false := OwnSl.frz HO.out
        have hcz := OwnSl.cell (sz := 2) (enc := Sp.enc) (fun _ => rfl) HO.out (k := k) (y := (⟨f1, f2⟩ : Sp)) (by rw [List.getElem?_append_right (by simp [Spmarks])]; simp [Spmarks]; exact HX.out)
        have d0 := hcz 0 _ rfl; have d1 := hcz 1 _ rfl
        simp only [Nat.add_zero] at d0
        clear hcz
        go_wp2
        go_roundw
        case rel =>
          refine ⟨k + 1, by omega, by go_num, by go_num, ?_, ?_⟩
          · have e1 : (Spmarks m k ++ xs.drop k).set k (SpmarkAt m k) = Spmarks m (k + 1) ++ xs.drop (k + 1) := by
              have e0 : (xs.drop k).set 0 (SpmarkAt m k) = SpmarkAt m k :: xs.drop (k + 1) := by rw [List.drop_eq_getElem_cons hlt, List.set_cons_zero]
              rw [List.set_append_right _ _ (by simp [Spmarks])]
              simp [Spmarks, List.range_succ, e0]
            rw [← e1]
            have e2 := HST.out
            simp only [wSet, SpmarkAt] at e2
            refine cast ?_ e2
            first | rfl | (congr 1 <;> (repeat (first | rfl | omega | congr 1)))
          · have e2 := HGR.out
            simp only [wSet, SpmarkAt] at e2
            refine ⟨?_, ?_, ?_, ?_, ?_⟩
            · exact HG.out.os
            · exact HG.out.tape
            · exact HG.out.output
            · simp; omega
            · intro q hq hne
              have hne' : q ≠ g := fun e => hne (by rw [e])
              simp [Below.heap_setCell, hne']
              exact HG.out.block q hq hne
        case measure => simp [intOf]; omega
      · have HE := Lib.hid (show k = xs.length by omega)
        go_wp2
        go_ret
        refine ⟨ret_int (by rw [HE.out]), ?_, HG.out⟩
        have := HO.out
        rw [HE.out, List.drop_length, List.append_nil] at this
        exact this
set_option maxHeartbeats 1000000 in
theorem heldSpanS_any (n : Nat) (v : Value) (m : Nat) (w : World) (hs : Spz w v (Spmarks m n)) (hn : n ≤ 1048576) (hm : m ≤ 8388608) : Calls Tryz.prog 88 #[v, .int .i64 (m : Int)] w fun e w' => e = .returned (.int .i64 ((m + 2 * n : Nat) : Int)) ∧ w = w' := by
  obtain ⟨a, cap, rfl, hlc, hcm, -⟩ := id hs
  have hl : (Spmarks m n).length = n := by simp [Spmarks]
  rw [hl] at hs hlc ⊢
  have HL := Lib.hid hl; clear hl
  unfold maxLen at hcm
  go_enter Tryz.func88, Tryz.ntmps88
  go_wp2_with fail
  go_loop [1, 5] (fun q i => ∃ k : Nat, k ≤ n ∧ i = .int .i64 k ∧ q = .int .i64 ((m + 2 * k : Nat) : Int)) (fun _ i => n - (intOf i).toNat)
  case atStart => exact ⟨0, by omega, rfl, rfl⟩
  case round =>
    obtain ⟨k, hk, rfl, rfl⟩ := hrel
    by_cases hlt : k < n
    · obtain ⟨b, o, f1, f2, rfl, hbl, hx, c0, c1⟩ := hs.at (show k < (Spmarks m n).length by rw [HL.out]; exact hlt)
      rw [Spmarks_get hlt] at hx
      cases hx
      go_wp2
      all_goals first | (exfalso; omega) | skip
      go_round
      case rel => exact ⟨k + 1, by omega, by go_num, by go_num⟩
      case measure => simp [intOf]; omega
    · have HE := Lib.hid (show k = n by omega)
      go_wp2
      go_ret
      exact ⟨ret_int (by rw [HE.out]), rfl⟩
def sumTo {α : Type} (f : α → Nat) (l : List α) (k : Nat) : Nat := ((l.take k).map f).sum
theorem sumTo_zero {α : Type} (f : α → Nat) (l : List α) : sumTo f l 0 = 0 := by simp [sumTo]
theorem sumTo_succ {α : Type} {f : α → Nat} {l : List α} {k : Nat} {x : α} (hx : l[k]? = some x) : sumTo f l (k + 1) = sumTo f l k + f x := by
  unfold sumTo
  rw [List.take_add_one, hx, List.map_append, List.sum_append]
  simp
theorem sumTo_le {α : Type} (f : α → Nat) (l : List α) : ∀ k d, sumTo f l k ≤ sumTo f l (k + d)
  | k, 0 => Nat.le_refl _
  | k, d + 1 => by
    refine Nat.le_trans (sumTo_le f l k d) ?_
    rw [show k + (d + 1) = (k + d) + 1 from rfl]
    cases hx : l[k + d]? with
    | none =>
      unfold sumTo
      have := List.getElem?_eq_none_iff.1 hx
      rw [List.take_of_length_le this, List.take_of_length_le (by omega)]
      exact Nat.le_refl _
    | some x => rw [sumTo_succ hx]; omega
def bxN (b : Bx) : Nat := b.length + sumTo List.length b b.length
def ftN (fs : List Ft) : Nat := fs.length + sumTo (fun f => bxN f.box) fs fs.length
def szOf (l : Int) (n : Nat) : Int := if l < n then -1 else l - n
theorem szOf_cases (l : Int) (n : Nat) : (szOf l n = -1 ∧ l < n) ∨ (szOf l n = l - n ∧ (n : Int) ≤ l) := by
  unfold szOf
  by_cases h : l < n
  · exact .inl ⟨if_pos h, h⟩
  · exact .inr ⟨if_neg h, by omega⟩
theorem take_eq_succ {α : Type} {xs ys : List α} {k : Nat} {x y : α} (h : xs.take k = ys.take k) (hx : xs[k]? = some x) (hy : ys[k]? = some y) (e : x = y) : xs.take (k + 1) = ys.take (k + 1) := by
  rw [List.take_add_one, List.take_add_one, h, hx, hy, e]
set_option maxHeartbeats 2000000 in
theorem eqSpanSS_any {lo lo' : Nat} (xs ys : Bx) (v u : Value) (w : World) (hs : Rws lo w v xs) (hu : Rws lo' w u ys) :
    Calls Tryz.prog 113 #[v, u] w fun e w' => e = .returned (.bool (decide (xs = ys))) ∧ Below w.heap.size w w' := by
  obtain ⟨a, cap, rfl, hlc, hcm⟩ := hs.form
  obtain ⟨a', cap', rfl, hlc', hcm'⟩ := hu.form
  unfold maxLen at hcm hcm'
  by_cases hne : xs.length = ys.length
  · have hm : ys.length = xs.length := hne.symm
    rw [hm] at hu hlc' ⊢
    generalize hn : xs.length = n at *
    have HN := Lib.hid hn
    have HM := Lib.hid hm
    clear hn hm hne
    go_enter Tryz.func113, Tryz.ntmps113
    go_wp2_with fail
    go_loopw [5] (fun i wr => ∃ k : Nat, k ≤ n ∧ i = .int .i64 k ∧ xs.take k = ys.take k ∧ Below w.heap.size w wr) (fun i _ => n - (intOf i).toNat)
    case atStart => exact ⟨0, by omega, rfl, rfl, Below.refl _ _⟩
    case round =>
      obtain ⟨k, hk, rfl, hq, hbr⟩ := hrel
      have HQ := Lib.hid hq; clear hq
      have hs2 := hs.below hbr
      have hu2 := hu.below hbr
      have hzr := hbr.size
      by_cases hlt : k < n
      · obtain ⟨x, hx⟩ : ∃ x, xs[k]? = some x := ⟨_, List.getElem?_eq_getElem (by rw [HN.out]; exact hlt)⟩
        obtain ⟨y, hy⟩ : ∃ y, ys[k]? = some y := ⟨_, List.getElem?_eq_getElem (by rw [HM.out]; exact hlt)⟩
        obtain ⟨b, o, sv, rfl, hbl, c0, hsv⟩ := hs2.at hx
        obtain ⟨b', o', su, rfl, hbl', d0, hsu⟩ := hu2.at hy
        have HX := Lib.hid hx; have HY := Lib.hid hy
        have HSV := Lib.hid hsv; have HSU := Lib.hid hsu
        clear hx hy hsv hsu
        have i1 : (k : Int) < (n : Int) := by omega
        have i2 : (0 : Int) ≤ (k : Int) := by omega
        by_cases he : x = y
        · have HE := Lib.hid he; clear he
          have hd := decide_eq_true HE.out
          go_wp2_with fail
          refine wp_region_over (by kernel_rfl) (by kernel_rfl) (fun ov => ?_); have ov0 := fun x => ov x (b) (by (try simp) <;> omega); have ov1 := fun x => ov x (b') (by (try simp) <;> omega); clear ov; (iterate 9 (iterate 8 (try go_big_quiet_step (first | (go_at_call 129; with_reducible exact callsOver (eqSpanS_b (HSV.out.z.below (over_below _ _)) (HSU.out.z.below (over_below _ _)) hd)))))); refine wpQuiet_nil ?_; intro w9 hw9; have hb_w9 := below_over hw9; clear hw9 ov0 ov1
          have hb10 : Below w.heap.size w w9 := hbr.trans (hb_w9.mono hzr)
          clear hb_w9
          go_wp2
          go_roundw
          case rel => exact ⟨k + 1, by omega, by go_num, take_eq_succ HQ.out HX.out HY.out HE.out, hb10⟩
          case measure => simp [intOf]; omega
        · have HE := Lib.hid (show decide (xs = ys) = false from decide_eq_false (fun h => he (by have h1 := HX.out; have h2 := HY.out; rw [h, h2] at h1; exact (Option.some.inj h1).symm)))
          have hd := decide_eq_false he
          clear he
          go_wp2_with fail
          refine wp_region_over (by kernel_rfl) (by kernel_rfl) (fun ov => ?_); have ov0 := fun x => ov x (b) (by (try simp) <;> omega); have ov1 := fun x => ov x (b') (by (try simp) <;> omega); clear ov; (iterate 9 (iterate 8 (try go_big_quiet_step (first | (go_at_call 129; with_reducible exact callsOver (eqSpanS_b (HSV.out.z.below (over_below _ _)) (HSU.out.z.below (over_below _ _)) hd)))))); refine wpQuiet_nil ?_; intro w9 hw9; have hb_w9 := below_over hw9; clear hw9 ov0 ov1
          have hb10 : Below w.heap.size w w9 := hbr.trans (hb_w9.mono hzr)
          clear hb_w9
          go_wp2
          go_ret
          exact ⟨ret_bool HE.out.symm, hb10⟩
      · have HE := Lib.hid (show decide (xs = ys) = true from decide_eq_true (by
          have hkn : k = n := by omega
          have := HQ.out
          rw [hkn] at this
          rwa [List.take_of_length_le (by rw [HN.out]; exact Nat.le_refl _), List.take_of_length_le (by rw [HM.out]; exact Nat.le_refl _)] at this))
        go_wp2
        go_ret
        exact ⟨ret_bool HE.out.symm, hbr⟩
  · have HN := Lib.hid (decide_eq_false (fun h : xs = ys => hne (by rw [h])))
    have hb : ((xs.length : Int) == (ys.length : Int)) = false := by simpa using (by omega : (xs.length : Int) ≠ ys.length)
    clear hne
    go_enter Tryz.func113, Tryz.ntmps113
    go_wp2
    go_ret
    exact ⟨ret_bool HN.out.symm, by (repeat' (first | with_reducible exact Below.refl _ _ | with_reducible assumption | with_reducible refine Below.setCell ?_ ?_ _ | with_reducible refine Below.alloc ?_ ?_ _ | with_reducible refine Below.drew ?_ | with_reducible refine belDrewN ?_ _ | with_reducible refine Below.trans ?_ (Below.mono (by assumption) ?_) | omega | (simp; omega) | (simp; done)))⟩
theorem eqSpanSS_b {lo lo' : Nat} {xs ys : Bx} {v u : Value} {w : World} {r : Bool} (hs : Rws lo w v xs) (hu : Rws lo' w u ys) (h : decide (xs = ys) = r) :
    Calls Tryz.prog 113 #[v, u] w fun e w' => e = .returned (.bool r) ∧ Below w.heap.size w w' := by
  subst h
  exact eqSpanSS_any xs ys v u w hs hu
set_option maxHeartbeats 1000000 in
theorem eqBox_b {lo lo' : Nat} {xs ys : Bx} {v u : Value} {w : World} {r : Bool} (hs : Rws lo w v xs) (hu : Rws lo' w u ys) (h : decide (xs = ys) = r) :
    Calls Tryz.prog 84 #[.agg #[v], .agg #[u]] w fun e w' => e = .returned (.bool r) ∧ Below w.heap.size w w' := by
  obtain ⟨a, cap, rfl, hlc, hcm⟩ := hs.form
  obtain ⟨a', cap', rfl, hlc', hcm'⟩ := hu.form
  go_enter Tryz.func84, Tryz.ntmps84
  go_wp2_with fail
  refine (eqSpanSS_b (hs.below (by (repeat' (first | with_reducible exact Below.refl _ _ | with_reducible assumption | with_reducible refine Below.setCell ?_ ?_ _ | with_reducible refine Below.alloc ?_ ?_ _ | with_reducible refine Below.drew ?_ | with_reducible refine belDrewN ?_ _ | with_reducible refine Below.trans ?_ (Below.mono (by assumption) ?_) | omega | (simp; omega) | (simp; done))))) (hu.below (by (repeat' (first | with_reducible exact Below.refl _ _ | with_reducible assumption | with_reducible refine Below.setCell ?_ ?_ _ | with_reducible refine Below.alloc ?_ ?_ _ | with_reducible refine Below.drew ?_ | with_reducible refine belDrewN ?_ _ | with_reducible refine Below.trans ?_ (Below.mono (by assumption) ?_) | omega | (simp; omega) | (simp; done))))) h).mono ?_
  rintro e w1 ⟨rfl, hb1⟩
  have hw1 : Below w.heap.size w w1 := by (repeat' (first | with_reducible exact Below.refl _ _ | with_reducible assumption | with_reducible refine Below.setCell ?_ ?_ _ | with_reducible refine Below.alloc ?_ ?_ _ | with_reducible refine Below.drew ?_ | with_reducible refine belDrewN ?_ _ | with_reducible refine Below.trans ?_ (Below.mono (by assumption) ?_) | omega | (simp; omega) | (simp; done)))
  clear hb1
  cases r
  all_goals
    go_wp2
    go_ret
    exact ⟨rfl, hw1⟩
set_option maxHeartbeats 1000000 in
theorem eqFlat_b {lo lo' : Nat} {xs ys : Bx} {c d : Bool} {v u : Value} {w : World} {r : Bool} (hs : Rws lo w v xs) (hu : Rws lo' w u ys) (h : decide ((⟨xs, c⟩ : Ft) = ⟨ys, d⟩) = r) :
    Calls Tryz.prog 50 #[.agg #[v, .bool c], .agg #[u, .bool d]] w fun e w' => e = .returned (.bool r) ∧ Below w.heap.size w w' := by
  obtain ⟨a, cap, rfl, hlc, hcm⟩ := hs.form
  obtain ⟨a', cap', rfl, hlc', hcm'⟩ := hu.form
  obtain ⟨q, hq⟩ : ∃ q, decide (xs = ys) = q := ⟨_, rfl⟩
  have hr : r = (q && decide (c = d)) := by
    rw [← h, ← hq]
    by_cases h1 : xs = ys <;> by_cases h2 : c = d <;> simp [h1, h2]
  clear h
  go_enter Tryz.func50, Tryz.ntmps50
  
  go_wp2_with fail; refine (eqBox_b (hs.below (by (repeat' (first | with_reducible exact Below.refl _ _ | with_reducible assumption | with_reducible refine Below.setCell ?_ ?_ _ | with_reducible refine Below.alloc ?_ ?_ _ | with_reducible refine Below.drew ?_ | with_reducible refine belDrewN ?_ _ | with_reducible refine Below.trans ?_ (Below.mono (by assumption) ?_) | omega | (simp; omega) | (simp; done))))) (hu.below (by (repeat' (first | with_reducible exact Below.refl _ _ | with_reducible assumption | with_reducible refine Below.setCell ?_ ?_ _ | with_reducible refine Below.alloc ?_ ?_ _ | with_reducible refine Below.drew ?_ | with_reducible refine belDrewN ?_ _ | with_reducible refine Below.trans ?_ (Below.mono (by assumption) ?_) | omega | (simp; omega) | (simp; done))))) hq).mono ?_; rintro e w1 ⟨rfl, hb1⟩; obtain ⟨hc1, hf1⟩ := bcell hb1; have hz1 := hb1.size; (try simp at hz1); (try have hz1_w_0 : w.heap.size < w1.heap.size := (by omega)); (try have hz1_w_1 : w.heap.size + 1 < w1.heap.size := (by omega)); (try have hz1_w_2 : w.heap.size + 2 < w1.heap.size := (by omega)); have k1 := ownCells hb1 w.heap.size (by simp; omega); have k1' := ownCells hb1 (w.heap.size + 1) (by simp)
  have hw1 : Below w.heap.size w w1 := by (repeat' (first | with_reducible exact Below.refl _ _ | with_reducible assumption | with_reducible refine Below.setCell ?_ ?_ _ | with_reducible refine Below.alloc ?_ ?_ _ | with_reducible refine Below.drew ?_ | with_reducible refine belDrewN ?_ _ | with_reducible refine Below.trans ?_ (Below.mono (by assumption) ?_) | omega | (simp; omega) | (simp; done)))
  have HR := Lib.hid hr
  clear hr hq
  cases q
  · go_wp2
    go_ret
    exact ⟨ret_bool (by rw [HR.out]; rfl), hw1⟩
  · cases c <;> cases d
    all_goals
      go_wp2
      go_ret
      exact ⟨ret_bool (by rw [HR.out]; rfl), hw1⟩
set_option maxHeartbeats 2000000 in
theorem eqFlatS_any {lo lo' : Nat} (xs ys : List Ft) (v u : Value) (w : World) (hs : Fts lo w v xs) (hu : Fts lo' w u ys) :
    Calls Tryz.prog 20 #[v, u] w fun e w' => e = .returned (.bool (decide (xs = ys))) ∧ Below w.heap.size w w' := by
  obtain ⟨a, cap, rfl, hlc, hcm⟩ := hs.form
  obtain ⟨a', cap', rfl, hlc', hcm'⟩ := hu.form
  unfold maxLen at hcm hcm'
  by_cases hne : xs.length = ys.length
  · have hm : ys.length = xs.length := hne.symm
    rw [hm] at hu hlc' ⊢
    generalize hn : xs.length = n at *
    have HN := Lib.hid hn
    have HM := Lib.hid hm
    clear hn hm hne
    go_enter Tryz.func20, Tryz.ntmps20
    go_wp2_with fail
    go_loopw [5] (fun i wr => ∃ k : Nat, k ≤ n ∧ i = .int .i64 k ∧ xs.take k = ys.take k ∧ Below w.heap.size w wr) (fun i _ => n - (intOf i).toNat)
    case atStart => exact ⟨0, by omega, rfl, rfl, Below.refl _ _⟩
    case round =>
      obtain ⟨k, hk, rfl, hq, hbr⟩ := hrel
      have HQ := Lib.hid hq; clear hq
      have hs2 := hs.below hbr
      have hu2 := hu.below hbr
      have hzr := hbr.size
      by_cases hlt : k < n
      · obtain ⟨x, hx⟩ : ∃ x, xs[k]? = some x := ⟨_, List.getElem?_eq_getElem (by rw [HN.out]; exact hlt)⟩
        obtain ⟨y, hy⟩ : ∃ y, ys[k]? = some y := ⟨_, List.getElem?_eq_getElem (by rw [HM.out]; exact hlt)⟩
        obtain ⟨b, o, sv, rfl, hbl, c0, c1, hsv⟩ := hs2.at hx
        obtain ⟨b', o', su, rfl, hbl', d0, d1, hsu⟩ := hu2.at hy
        have HX := Lib.hid hx; have HY := Lib.hid hy
        have HSV := Lib.hid hsv; have HSU := Lib.hid hsu
        clear hx hy hsv hsu
        have i1 : (k : Int) < (n : Int) := by omega
        have i2 : (0 : Int) ≤ (k : Int) := by omega
        by_cases he : x = y
        · have HE := Lib.hid he; clear he
          have hd := decide_eq_true HE.out
          go_wp2_with fail
          refine wp_region_over (by kernel_rfl) (by kernel_rfl) (fun ov => ?_); have ov0 := fun x => ov x (b) (by (try simp) <;> omega); have ov1 := fun x => ov x (b') (by (try simp) <;> omega); clear ov; (iterate 9 (iterate 8 (try go_big_quiet_step (first | (go_at_call 50; with_reducible exact callsOver (eqFlat_b (HSV.out.below (over_below _ _)) (HSU.out.below (over_below _ _)) hd)))))); refine wpQuiet_nil ?_; intro w9 hw9; have hb_w9 := below_over hw9; clear hw9 ov0 ov1
          have hb10 : Below w.heap.size w w9 := hbr.trans (hb_w9.mono hzr)
          clear hb_w9
          go_wp2
          go_roundw
          case rel => exact ⟨k + 1, by omega, by go_num, take_eq_succ HQ.out HX.out HY.out HE.out, hb10⟩
          case measure => simp [intOf]; omega
        · have HE := Lib.hid (show decide (xs = ys) = false from decide_eq_false (fun h => he (by have h1 := HX.out; have h2 := HY.out; rw [h, h2] at h1; exact (Option.some.inj h1).symm)))
          have hd := decide_eq_false he
          clear he
          go_wp2_with fail
          refine wp_region_over (by kernel_rfl) (by kernel_rfl) (fun ov => ?_); have ov0 := fun x => ov x (b) (by (try simp) <;> omega); have ov1 := fun x => ov x (b') (by (try simp) <;> omega); clear ov; (iterate 9 (iterate 8 (try go_big_quiet_step (first | (go_at_call 50; with_reducible exact callsOver (eqFlat_b (HSV.out.below (over_below _ _)) (HSU.out.below (over_below _ _)) hd)))))); refine wpQuiet_nil ?_; intro w9 hw9; have hb_w9 := below_over hw9; clear hw9 ov0 ov1
          have hb10 : Below w.heap.size w w9 := hbr.trans (hb_w9.mono hzr)
          clear hb_w9
          go_wp2
          go_ret
          exact ⟨ret_bool HE.out.symm, hb10⟩
      · have HE := Lib.hid (show decide (xs = ys) = true from decide_eq_true (by
          have hkn : k = n := by omega
          have := HQ.out
          rw [hkn] at this
          rwa [List.take_of_length_le (by rw [HN.out]; exact Nat.le_refl _), List.take_of_length_le (by rw [HM.out]; exact Nat.le_refl _)] at this))
        go_wp2
        go_ret
        exact ⟨ret_bool HE.out.symm, hbr⟩
  · have HN := Lib.hid (decide_eq_false (fun h : xs = ys => hne (by rw [h])))
    have hb : ((xs.length : Int) == (ys.length : Int)) = false := by simpa using (by omega : (xs.length : Int) ≠ ys.length)
    clear hne
    go_enter Tryz.func20, Tryz.ntmps20
    go_wp2
    go_ret
    exact ⟨ret_bool HN.out.symm, by (repeat' (first | with_reducible exact Below.refl _ _ | with_reducible assumption | with_reducible refine Below.setCell ?_ ?_ _ | with_reducible refine Below.alloc ?_ ?_ _ | with_reducible refine Below.drew ?_ | with_reducible refine belDrewN ?_ _ | with_reducible refine Below.trans ?_ (Below.mono (by assumption) ?_) | omega | (simp; omega) | (simp; done)))⟩
theorem eqFlatS_b {lo lo' : Nat} {xs ys : List Ft} {v u : Value} {w : World} {r : Bool} (hs : Fts lo w v xs) (hu : Fts lo' w u ys) (h : decide (xs = ys) = r) :
    Calls Tryz.prog 20 #[v, u] w fun e w' => e = .returned (.bool r) ∧ Below w.heap.size w w' := by
  subst h
  exact eqFlatS_any xs ys v u w hs hu
/-- The elements own one interval of blocks behind another. -/
def OwnC {α β : Type} (P : Nat → Nat → α → β → Prop) : Nat → Nat → List α → List β → Prop
  | lo, hi, [], [] => lo ≤ hi
  | lo, hi, a :: la, b :: lb => ∃ mid, P lo mid a b ∧ OwnC P mid hi la lb
  | _, _, _, _ => False
theorem OwnC.le {α β : Type} {P : Nat → Nat → α → β → Prop} (hP : ∀ l h x y, P l h x y → l ≤ h) : ∀ {lo hi : Nat} {la : List α} {lb : List β}, OwnC P lo hi la lb → lo ≤ hi
  | _, _, [], [], h => h
  | _, _, [], _ :: _, h => h.elim
  | _, _, _ :: _, [], h => h.elim
  | _, _, _ :: _, _ :: _, ⟨_, h1, h2⟩ => Nat.le_trans (hP _ _ _ _ h1) (OwnC.le hP h2)
theorem OwnC.len {α β : Type} {P : Nat → Nat → α → β → Prop} : ∀ {lo hi : Nat} {la : List α} {lb : List β}, OwnC P lo hi la lb → la.length = lb.length
  | _, _, [], [], _ => rfl
  | _, _, [], _ :: _, h => h.elim
  | _, _, _ :: _, [], h => h.elim
  | _, _, _ :: _, _ :: _, ⟨_, _, h2⟩ => by simp [OwnC.len h2]
theorem OwnC.snoc {α β : Type} {P : Nat → Nat → α → β → Prop} {hi' : Nat} {a : α} {b : β} : ∀ {lo hi : Nat} {la : List α} {lb : List β}, OwnC P lo hi la lb → (∀ l, l ≤ hi → P l hi' a b) → hi ≤ hi' → OwnC P lo hi' (la ++ [a]) (lb ++ [b])
  | _, _, [], [], h, hp, _ => ⟨hi', hp _ h, Nat.le_refl _⟩
  | _, _, [], _ :: _, h, _, _ => h.elim
  | _, _, _ :: _, [], h, _, _ => h.elim
  | _, _, _ :: _, _ :: _, ⟨mid, h1, h2⟩, hp, hh => ⟨mid, h1, OwnC.snoc h2 hp hh⟩
theorem OwnC.imp {α β : Type} {P P' : Nat → Nat → α → β → Prop} (hP : ∀ l h x y, P l h x y → l ≤ h) : ∀ {lo hi : Nat} {la : List α} {lb : List β}, OwnC P lo hi la lb → (∀ l h x y, lo ≤ l → h ≤ hi → P l h x y → P' l h x y) → OwnC P' lo hi la lb
  | _, _, [], [], h, _ => h
  | _, _, [], _ :: _, h, _ => h.elim
  | _, _, _ :: _, [], h, _ => h.elim
  | _, _, _ :: _, _ :: _, ⟨mid, h1, h2⟩, hp => ⟨mid, hp _ _ _ _ (Nat.le_refl _) (OwnC.le hP h2) h1, OwnC.imp hP h2 (fun l h x y g1 g2 g3 => hp l h x y (Nat.le_trans (hP _ _ _ _ h1) g1) g2 g3)⟩
theorem OwnC.hi {α β : Type} {P : Nat → Nat → α → β → Prop} {hi' : Nat} : ∀ {lo hi : Nat} {la : List α} {lb : List β}, OwnC P lo hi la lb → hi ≤ hi' → OwnC P lo hi' la lb
  | _, _, [], [], h, hh => Nat.le_trans h hh
  | _, _, [], _ :: _, h, _ => h.elim
  | _, _, _ :: _, [], h, _ => h.elim
  | _, _, _ :: _, _ :: _, ⟨mid, h1, h2⟩, hh => ⟨mid, h1, OwnC.hi h2 hh⟩
/-- One element is turned, the others stay. -/
theorem OwnC.step {α β : Type} {P : Nat → Nat → α → β → Prop} (hP : ∀ l h x y, P l h x y → l ≤ h) {a : α} {b : β} : ∀ {lo hi : Nat} {la : List α} {lb : List β} (i : Nat), OwnC P lo hi la lb → la[i]? = some a → lb[i]? = some b →
    ∃ l m, lo ≤ l ∧ l ≤ m ∧ m ≤ hi ∧ P l m a b ∧ ∀ (P' : Nat → Nat → α → β → Prop) (a' : α) (b' : β), P' l m a' b' → (∀ l' h' x y, (h' ≤ l ∨ m ≤ l') → P l' h' x y → P' l' h' x y) → OwnC P' lo hi (la.set i a') (lb.set i b')
  | _, _, [], _, i, _, ha, _ => by simp at ha
  | _, _, _ :: _, [], i, h, _, _ => h.elim
  | lo, hi, x :: la, y :: lb, 0, ⟨mid, h1, h2⟩, ha, hb => by
    simp at ha hb
    subst ha hb
    refine ⟨lo, mid, Nat.le_refl _, hP _ _ _ _ h1, OwnC.le hP h2, h1, fun P' a' b' h3 h4 => ⟨mid, h3, ?_⟩⟩
    exact OwnC.imp hP h2 (fun l h x y g1 _ g3 => h4 l h x y (.inr g1) g3)
  | lo, hi, x :: la, y :: lb, i + 1, ⟨mid, h1, h2⟩, ha, hb => by
    obtain ⟨l, m, k1, k2, k3, k4, k5⟩ := OwnC.step hP i h2 (by simpa using ha) (by simpa using hb)
    refine ⟨l, m, Nat.le_trans (hP _ _ _ _ h1) k1, k2, k3, k4, fun P' a' b' h3 h4 => ⟨mid, h4 _ _ _ _ (.inl k1) h1, k5 P' a' b' h3 h4⟩⟩
theorem OwnC.all2 {α β : Type} {P : Nat → Nat → α → β → Prop} {R : α → β → Prop} (hP : ∀ l h x y, P l h x y → l ≤ h) {lo hi : Nat} {la : List α} {lb : List β} (h : OwnC P lo hi la lb) (hR : ∀ l m x y, lo ≤ l → m ≤ hi → P l m x y → R x y) : All2 R la lb := by
  refine ⟨h.len, fun k x y hx hy => ?_⟩
  obtain ⟨l, m, h1, _, h3, h4, _⟩ := h.step hP k hx hy
  exact hR l m x y h1 h3 h4
/-- The blocks from lo up to hi stay. -/
structure Kpi (lo hi : Nat) (w w' : World) : Prop where
  size : w.heap.size ≤ w'.heap.size
  block : ∀ k, lo ≤ k → k < hi → k < w.heap.size → w'.heap[k]? = w.heap[k]?
theorem Kpi.of {lo hi : Nat} {w w' : World} (h : Below w.heap.size w w') : Kpi lo hi w w' := ⟨h.size, fun k _ _ hk => h.block k hk⟩
theorem Kpi.sub {lo hi lo' hi' : Nat} {w w' : World} (h : Kpi lo hi w w') (h1 : lo ≤ lo') (h2 : hi' ≤ hi) : Kpi lo' hi' w w' := ⟨h.size, fun k g1 g2 g3 => h.block k (Nat.le_trans h1 g1) (Nat.lt_of_lt_of_le g2 h2) g3⟩
theorem OwnSl.keepB {α : Type} {base e sz : Nat} {enc : α → List Value} {w w' : World} {v : Value} {ys : List α} (h : OwnSl base e sz enc w v ys) (hb : ∀ g, v.ownBlock = some g → base ≤ g → g < w.heap.size → w'.heap[g]? = w.heap[g]?) : OwnSl base e sz enc w' v ys := by
  refine ⟨h.1, ?_⟩
  obtain ⟨_, h | ⟨g, cap, cur, rfl, hg, hh, r⟩⟩ := h
  · exact Or.inl h
  · exact Or.inr ⟨g, cap, cur, rfl, hg, (hb g rfl hg (Array.getElem?_eq_some_iff.1 hh).1).trans hh, r⟩
/-- A slice with its block between lo and hi. -/
def OwnI {α : Type} (e sz : Nat) (enc : α → List Value) (w : World) (lo hi : Nat) (v : Value) (xs : List α) : Prop := OwnSl lo e sz enc w v xs ∧ (∀ x, v.ownBlock = some x → x < hi) ∧ lo ≤ hi
theorem OwnI.keep {α : Type} {e sz : Nat} {enc : α → List Value} {w w' : World} {lo hi : Nat} {v : Value} {xs : List α} (h : OwnI e sz enc w lo hi v xs) (hk : Kpi lo hi w w') : OwnI e sz enc w' lo hi v xs :=
  ⟨h.1.keepB (fun g h1 h2 h3 => hk.block g h2 (h.2.1 g h1) h3), h.2⟩
theorem OwnI.le {α : Type} {e sz : Nat} {enc : α → List Value} {w : World} : ∀ l h (v : Value) (xs : List α), OwnI e sz enc w l h v xs → l ≤ h := fun _ _ _ _ h => h.2.2
def PSp (w : World) (lo hi : Nat) (v : Value) (xs : List Sp) : Prop := OwnI 74 2 Sp.enc w lo hi v xs
theorem PSp.le {w : World} : ∀ l h (v : Value) (xs : List Sp), PSp w l h v xs → l ≤ h := OwnI.le
/-- A box of the call's own. -/
def OwnRw (w : World) (lo hi : Nat) (v : Value) (b : Bx) : Prop := ∃ vs mid, OwnI 75 1 enc1 w lo mid v vs ∧ OwnC (PSp w) mid hi vs b
theorem OwnRw.le {w : World} : ∀ l h (v : Value) (b : Bx), OwnRw w l h v b → l ≤ h := fun _ _ _ _ ⟨_, _, h1, h2⟩ => Nat.le_trans h1.2.2 (OwnC.le PSp.le h2)
theorem OwnRw.keep {w w' : World} {lo hi : Nat} {v : Value} {b : Bx} (h : OwnRw w lo hi v b) (hk : Kpi lo hi w w') : OwnRw w' lo hi v b := by
  obtain ⟨vs, mid, h1, h2⟩ := h
  have hm := OwnC.le PSp.le h2
  exact ⟨vs, mid, h1.keep (hk.sub (Nat.le_refl _) hm), OwnC.imp PSp.le h2 (fun l h x y g1 g2 g3 => OwnI.keep g3 (hk.sub (Nat.le_trans h1.2.2 g1) g2))⟩
theorem OwnRw.rws {w : World} {lo hi : Nat} {v : Value} {b : Bx} (h : OwnRw w lo hi v b) : Rws lo w v b := by
  obtain ⟨vs, mid, h1, h2⟩ := h
  exact ⟨vs, OwnSl.fr (sz := 1) (enc := enc1) (fun _ => rfl) h1.1, OwnC.all2 PSp.le h2 (fun l m x y g1 _ g3 => Sps.mono (OwnSl.fr (sz := 2) (enc := Sp.enc) (fun _ => rfl) g3.1) (Nat.le_trans h1.2.2 g1))⟩
def PFt (w : World) (lo hi : Nat) (r : RF) (f : Ft) : Prop := OwnRw w lo hi r.s f.box ∧ r.acc = f.acc
theorem PFt.le {w : World} : ∀ l h (r : RF) (f : Ft), PFt w l h r f → l ≤ h := fun _ _ _ _ h => OwnRw.le _ _ _ _ h.1
def OwnFs (w : World) (lo hi : Nat) (v : Value) (fs : List Ft) : Prop := ∃ rs mid, OwnI 44 2 RF.enc w lo mid v rs ∧ OwnC (PFt w) mid hi rs fs
theorem OwnFs.keep {w w' : World} {lo hi : Nat} {v : Value} {fs : List Ft} (h : OwnFs w lo hi v fs) (hk : Kpi lo hi w w') : OwnFs w' lo hi v fs := by
  obtain ⟨vs, mid, h1, h2⟩ := h
  have hm := OwnC.le PFt.le h2
  exact ⟨vs, mid, h1.keep (hk.sub (Nat.le_refl _) hm), OwnC.imp PFt.le h2 (fun l h x y g1 g2 g3 => ⟨g3.1.keep (hk.sub (Nat.le_trans h1.2.2 g1) g2), g3.2⟩)⟩
theorem OwnFs.fts {w : World} {lo hi : Nat} {v : Value} {fs : List Ft} (h : OwnFs w lo hi v fs) : Fts lo w v fs := by
  obtain ⟨vs, mid, h1, h2⟩ := h
  exact ⟨vs, OwnSl.fr (sz := 2) (enc := RF.enc) (fun _ => rfl) h1.1, OwnC.all2 PFt.le h2 (fun l m x y g1 _ g3 => ⟨Rws.mono g3.1.rws (Nat.le_trans h1.2.2 g1), g3.2⟩)⟩
theorem infoSl : (Tryz.prog.info? 75).map (fun i => (i.zero, i.size, i.bytes)) = some (some (.slice none 0 0), 1, 24) := by kernel_rfl
theorem infoFt : (Tryz.prog.info? 44).map (fun i => (i.zero, i.size, i.bytes)) = some (some (.agg #[.slice none 0 0, .bool false]), 2, 32) := by kernel_rfl
def RetRw (b : Bx) (w : World) (e : Ending) (w' : World) : Prop := ∃ v, e = .returned v ∧ OwnRw w' w.heap.size w'.heap.size v b ∧ Below w.heap.size w w'
theorem set_rep {α : Type} (vs : List α) (n k : Nat) (z y : α) (hl : vs.length = k) (hk : k < n) : (vs ++ List.replicate (n - k) z).set k y = (vs ++ [y]) ++ List.replicate (n - (k + 1)) z := by
  rw [List.set_append_right _ _ (by omega), hl, Nat.sub_self, show n - k = (n - (k + 1)) + 1 from by omega, List.replicate_succ, List.set_cons_zero, List.append_assoc]
  rfl
theorem OwnI.mono {α : Type} {e sz : Nat} {enc : α → List Value} {w : World} {lo lo' hi : Nat} {v : Value} {xs : List α} (h : OwnI e sz enc w lo hi v xs) (hl : lo' ≤ lo) : OwnI e sz enc w lo' hi v xs :=
  ⟨OwnSl.mono h.1 hl, h.2.1, Nat.le_trans hl h.2.2⟩
theorem OwnRw.mono {w : World} {lo lo' hi hi' : Nat} {v : Value} {b : Bx} (h : OwnRw w lo hi v b) (hl : lo' ≤ lo) (hh : hi ≤ hi') : OwnRw w lo' hi' v b := by
  obtain ⟨vs, mid, h1, h2⟩ := h
  exact ⟨vs, mid, h1.mono hl, h2.hi hh⟩
theorem OwnFs.mono {w : World} {lo lo' hi hi' : Nat} {v : Value} {b : List Ft} (h : OwnFs w lo hi v b) (hl : lo' ≤ lo) (hh : hi ≤ hi') : OwnFs w lo' hi' v b := by
  obtain ⟨vs, mid, h1, h2⟩ := h
  exact ⟨vs, mid, h1.mono hl, h2.hi hh⟩
def RetBx (b : Bx) (w : World) (e : Ending) (w' : World) : Prop := ∃ v, e = .returned (.agg #[v]) ∧ OwnRw w' w.heap.size w'.heap.size v b ∧ Below w.heap.size w w'
def RetFt (f : Ft) (w : World) (e : Ending) (w' : World) : Prop := ∃ v, e = .returned (.agg #[v, .bool f.acc]) ∧ OwnRw w' w.heap.size w'.heap.size v f.box ∧ Below w.heap.size w w'
theorem sumTo_at {α : Type} {f : α → Nat} {l : List α} {k : Nat} {x : α} (hx : l[k]? = some x) : f x ≤ sumTo f l l.length := by
  have h1 := sumTo_succ (f := f) hx
  have hk := (List.getElem?_eq_some_iff.1 hx).1
  have h2 := sumTo_le f l (k + 1) (l.length - (k + 1))
  rw [show k + 1 + (l.length - (k + 1)) = l.length by omega] at h2
  omega
def RetFs (fs : List Ft) (w : World) (e : Ending) (w' : World) : Prop := ∃ v, e = .returned v ∧ OwnFs w' w.heap.size w'.heap.size v fs ∧ Below w.heap.size w w'
theorem OwnFs.form {w : World} {lo hi : Nat} {v : Value} {fs : List Ft} (h : OwnFs w lo hi v fs) : ∃ a cap, v = .slice a fs.length cap ∧ fs.length ≤ cap ∧ cap ≤ maxLen := Fts.form h.fts
end Go.Proofs.YtfcbbahlhjdefaaGreatDoor
