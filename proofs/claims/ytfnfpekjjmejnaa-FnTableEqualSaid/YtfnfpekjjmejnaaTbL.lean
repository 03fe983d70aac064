/- Lists of entries: the laws' own helpers. -/
import Derived.Test.YtfnfpekjjmejnaaTbB
import Derived.Test.YtfnfpekjjmejnaaSetAll
namespace Go.Proofs.Ytfnfpekjjmejnaa
open Go.RowKit
theorem infoEn : (Try.prog.info? 35).map (fun i => (i.zero, i.size, i.bytes)) = some (some (.agg #[.int .i64 0, .int .i64 0, .int .i64 0]), 3, 24) := by kernel_rfl
def OwnEn (base : Nat) (w : World) (v : Value) (ys : List En) : Prop := OwnSl base 35 3 En.enc w v ys
theorem OwnEn.ens {base : Nat} {w : World} {v : Value} {ys : List En} (h : OwnEn base w v ys) : Ens w v ys := OwnSl.at (sz := 3) (enc := En.enc) (fun _ => rfl) h
/-- A call's own list as its answer. -/
def RetEn (ys : List En) (w : World) (e : Ending) (w' : World) : Prop := ∃ v, e = .returned v ∧ OwnEn w.heap.size w' v ys ∧ Below w.heap.size w w'
theorem En_eqd (p q : Pf) (t u : Int) : decide ((⟨p, t⟩ : En) = ⟨q, u⟩) = (decide (p = q) && decide (t = u)) := by
  by_cases h1 : p = q <;> by_cases h2 : t = u <;> simp [h1, h2]
set_option maxHeartbeats 400000 in
theorem eqPrefix_any (a1 a2 b1 b2 : Int) (w : World) :
    Calls Try.prog 64 #[.agg #[.int .i64 a1, .int .i64 a2], .agg #[.int .i64 b1, .int .i64 b2]] w fun e w' => e = .returned (.bool (decide (Pf.mk a1 a2 = ⟨b1, b2⟩))) ∧ Below w.heap.size w w' := by
  go_enter Try.func64, Try.ntmps64
  go_wp2
  all_goals (go_ret; refine ⟨ret_bool ?_, by (repeat' (first | with_reducible exact Below.refl _ _ | with_reducible assumption | with_reducible refine Below.setCell ?_ ?_ _ | with_reducible refine Below.alloc ?_ ?_ _ | with_reducible refine Below.drew ?_ | with_reducible refine belDrewN ?_ _ | with_reducible refine Below.trans ?_ (Below.mono (by assumption) ?_) | omega | (simp; omega) | (simp; done)))⟩)
  all_goals (by_cases e1 : a1 = b1 <;> by_cases e2 : a2 = b2 <;> simp_all)
set_option maxHeartbeats 400000 in
theorem eqEntry_b {f1 f2 f3 g1 g2 g3 : Int} {r : Bool} (h : decide ((⟨⟨f1, f2⟩, f3⟩ : En) = ⟨⟨g1, g2⟩, g3⟩) = r) (w : World) :
    Calls Try.prog 46 #[.agg #[.int .i64 f1, .int .i64 f2, .int .i64 f3], .agg #[.int .i64 g1, .int .i64 g2, .int .i64 g3]] w fun e w' => e = .returned (.bool r) ∧ Below w.heap.size w w' := by
  subst h
  go_enter Try.func46, Try.ntmps46
  go_wp2_with (first | (go_at_call 64; refine (eqPrefix_any _ _ _ _ _).mono ?_; rintro e w1 ⟨rfl, hb⟩; obtain ⟨hc, hf⟩ := bcell hb; have hz := hb.size; (try simp at hz); have hzw_0 : w.heap.size < w1.heap.size := (by omega); have hzw_1 : w.heap.size + 1 < w1.heap.size := (by omega)))
  all_goals (go_ret; refine ⟨ret_bool ?_, by (repeat' (first | with_reducible exact Below.refl _ _ | with_reducible assumption | with_reducible refine Below.setCell ?_ ?_ _ | with_reducible refine Below.alloc ?_ ?_ _ | with_reducible refine Below.drew ?_ | with_reducible refine belDrewN ?_ _ | with_reducible refine Below.trans ?_ (Below.mono (by assumption) ?_) | omega | (simp; omega) | (simp; done)))⟩)
  all_goals (rw [En_eqd]; first | (simp [*]; done) | (by_cases e1 : f1 = g1 <;> by_cases e2 : f2 = g2 <;> by_cases e3 : f3 = g3 <;> simp_all))
set_option maxHeartbeats 400000 in
theorem toPrefix_any (a b : Int) (w : World) :
    Calls Try.prog 25 #[.agg #[.int .i64 a, .int .i64 b]] w fun e w' => e = .returned (.agg #[.int .i64 a, .int .i64 b]) ∧ Below w.heap.size w w' := by
  go_enter Try.func25, Try.ntmps25
  go_wp2
  exact bodyPost_ret (v := .agg #[.int .i64 a, .int .i64 b]) (by simp [results, Try.results25, go_sem]) rfl ⟨rfl, by (repeat' (first | with_reducible exact Below.refl _ _ | with_reducible assumption | with_reducible refine Below.setCell ?_ ?_ _ | with_reducible refine Below.alloc ?_ ?_ _ | with_reducible refine Below.drew ?_ | with_reducible refine belDrewN ?_ _ | with_reducible refine Below.trans ?_ (Below.mono (by assumption) ?_) | omega | (simp; omega) | (simp; done)))⟩
set_option maxHeartbeats 400000 in
theorem toEntry_any (a b t : Int) (w : World) :
    Calls Try.prog 38 #[.agg #[.int .i64 a, .int .i64 b, .int .i64 t]] w fun e w' => e = .returned (.agg #[.int .i64 a, .int .i64 b, .int .i64 t]) ∧ Below w.heap.size w w' := by
  go_enter Try.func38, Try.ntmps38
  go_wp2_with fail
  refine (toPrefix_any _ _ _).mono ?_
  rintro e w1 ⟨rfl, hb⟩
  have hz := hb.size; simp at hz
  have kk := ownCells hb (w.heap.size) (by (try simp) <;> omega); have a0 := kk 0; have a1 := kk 1; have a2 := kk 2; clear kk; (try simp [go_sem] at a0); (try simp [go_sem] at a1); (try simp [go_sem] at a2)
  have kk := ownCells hb (w.heap.size + 1) (by (try simp) <;> omega); have r0 := kk 0; have r1 := kk 1; have r2 := kk 2; clear kk; (try simp [go_sem] at r0); (try simp [go_sem] at r1); (try simp [go_sem] at r2)
  have kk := ownCells hb (w.heap.size + 2) (by (try simp) <;> omega); have q0 := kk 0; have q1 := kk 1; have q2 := kk 2; clear kk; (try simp [go_sem] at q0); (try simp [go_sem] at q1); (try simp [go_sem] at q2)
  have hb1 : Below w.heap.size w w1 := by (repeat' (first | with_reducible exact Below.refl _ _ | with_reducible assumption | with_reducible refine Below.setCell ?_ ?_ _ | with_reducible refine Below.alloc ?_ ?_ _ | with_reducible refine Below.drew ?_ | with_reducible refine belDrewN ?_ _ | with_reducible refine Below.trans ?_ (Below.mono (by assumption) ?_) | omega | (simp; omega) | (simp; done)))
  obtain ⟨hc, hf⟩ := bcell hb
  have hzw_0 : w.heap.size < w1.heap.size := (by omega); have hzw_1 : w.heap.size + 1 < w1.heap.size := (by omega); have hzw_2 : w.heap.size + 2 < w1.heap.size := (by omega)
  clear hc hb
  go_wp2
  refine bodyPost_ret (v := .agg #[.int .i64 a, .int .i64 b, .int .i64 t]) (run_resCell (b := w.heap.size + 1) (o := 0) (cs := [.int .i64 a, .int .i64 b, .int .i64 t]) rfl rfl Try.isAgg35 Try.sizeOf35 ?_) rfl ⟨rfl, by (repeat' (first | with_reducible exact Below.refl _ _ | with_reducible assumption | with_reducible refine Below.setCell ?_ ?_ _ | with_reducible refine Below.alloc ?_ ?_ _ | with_reducible refine Below.drew ?_ | with_reducible refine belDrewN ?_ _ | with_reducible refine Below.trans ?_ (Below.mono (by assumption) ?_) | omega | (simp; omega) | (simp; done)))⟩
  intro j v hj
  have hr : (w1.cell? ⟨w.heap.size + 1, 0, none⟩).isSome = true ∧ (w1.cell? ⟨w.heap.size + 1, 1, none⟩).isSome = true ∧ (w1.cell? ⟨w.heap.size + 1, 2, none⟩).isSome = true := by simp [r0, r1, r2]
  obtain ⟨s0, s1, s2⟩ := hr
  clear r0 r1 r2 q0 q1 q2 a0 a1 a2 hf
  match j, hj with
  | 0, hj => cases hj; simp [World.cell?_setCell_same', World.cell?_setCell_other, s0]
  | 1, hj => cases hj; simp [World.cell?_setCell_same', World.cell?_setCell_other, s1]
  | 2, hj => cases hj; simp [World.cell?_setCell_same', World.cell?_setCell_other, s2]
  | j + 3, hj => simp at hj
def EnmarkAt (k : Nat) (i : Nat) : En := ⟨⟨((k + 3 * i + 0 : Nat) : Int), ((k + 3 * i + 1 : Nat) : Int)⟩, ((k + 3 * i + 2 : Nat) : Int)⟩
def Enmarks (k n : Nat) : List En := (List.range n).map (EnmarkAt k)
theorem Enmarks_get {k n i : Nat} (h : i < n) : (Enmarks k n)[i]? = some (EnmarkAt k i) := by simp [Enmarks, h]
set_option maxHeartbeats 1000000 in
theorem toEntryS_any (xs : List En) (v : Value) (w : World) (hs : Ens w v xs) (hn : xs.length ≤ 1048576) : Calls Try.prog 17 #[v] w (RetEn xs w) := by
  obtain ⟨a, cap, rfl, hlc, hcm, -⟩ := id hs
  unfold maxLen at hcm
  obtain ⟨i0, hi, hz0, hz1, hz2⟩ := info_parts infoEn
  go_enter Try.func17, Try.ntmps17
  go_wp2_with (at_make; refine wpList_make_full _ rfl _ _ 25 rfl w.heap.size 35 i0 _ 3 Try.underlying25 hi hz0 hz1 _ _ _ _ xs.length rfl rfl rfl rfl ?b1 ?b2 ?b3 ?_)
  case b1 => rw [hz2]; omega
  case b2 => simp only [maxLen]; omega
  case b3 => omega
  intro w1 hown1 hgrow1
  have hb1 : Below w.heap.size w w1 := (Below.refl _ _).grown hgrow1 (Nat.le_refl _) (fun k hk => by cases hk)
  have HO1 := Lib.hid (show OwnEn w.heap.size w1 (.slice (some ⟨w.heap.size, 0, none⟩) xs.length xs.length) (List.replicate xs.length (⟨⟨0, 0⟩, 0⟩ : En)) by unfold OwnEn OwnSl; rw [List.length_replicate, ← madeFlat (sz := 3) (enc := En.enc) (fun _ => rfl) (by omega) (.agg #[.int .i64 0, .int .i64 0, .int .i64 0]) ⟨⟨0, 0⟩, 0⟩ rfl]; exact hown1)
  clear hown1 hgrow1
  go_wp2_with fail
  go_loopw [4] (fun i wr => ∃ k : Nat, k ≤ xs.length ∧ i = .int .i64 k ∧ OwnEn w.heap.size wr (.slice (some ⟨w.heap.size, 0, none⟩) xs.length xs.length) (xs.take k ++ List.replicate (xs.length - k) (⟨⟨0, 0⟩, 0⟩ : En)) ∧ Below w.heap.size w wr) (fun i _ => xs.length - (intOf i).toNat)
  case atStart => exact ⟨0, by omega, rfl, by simpa using HO1.out, hb1⟩
  case round =>
    obtain ⟨k, hk, rfl, hown, hbr⟩ := hrel
    have HO := Lib.hid hown; clear hown HO1 hb1
    have hs2 := Lib.hid (hs.below hbr)
    have hzr := hbr.size
    by_cases hlt : k < xs.length
    · obtain ⟨b, o, f1, f2, f3, rfl, hbl, hx, c0, c1, c2⟩ := hs2.out.at hlt
      have HX := Lib.hid hx; clear hx
      have hgb : w.heap.size < wr.heap.size := by
        rcases OwnSl.form HO.out with ⟨h, _⟩ | ⟨g, cp, h, _, h2, _⟩
        · cases h
        · obtain ⟨h3, _, _⟩ := Value.slice.inj h; cases h3; exact h2
      go_wp2_with fail
      refine (toEntry_any _ _ _ _).mono ?_
      rintro e w2 ⟨rfl, hb2⟩
      have HO2 := Lib.hid (OwnSl.kept HO.out hb2)
      have hz2' := hb2.size
      have hlen : (xs.take k ++ List.replicate (xs.length - k) (⟨⟨0, 0⟩, 0⟩ : En)).length = xs.length := by simp; omega
      have HL := Lib.hid hlen; clear hlen
      obtain ⟨hst, hgr⟩ := OwnSl.store (sz := 3) (enc := En.enc) (fun _ => rfl) HL.out.symm HO2.out (k := k) (by rw [HL.out]; exact hlt) (⟨⟨f1, f2⟩, f3⟩ : En)
      have HST := Lib.hid hst; have HGR := Lib.hid hgr; clear hst hgr
      have hfz : ∀ j, w2.frozen? ⟨w.heap.size, j, none⟩ = false := OwnSl.frz HO2.out
      have hcz := OwnSl.cell (sz := 3) (enc := En.enc) (fun _ => rfl) HO2.out (k := k) (y := (⟨⟨0, 0⟩, 0⟩ : En)) (by rw [List.getElem?_append_right (List.length_take_le _ _), List.length_take, Nat.min_eq_left hk, Nat.sub_self, List.getElem?_replicate, if_pos (by omega)])
      have d0 := hcz 0 _ rfl; have d1 := hcz 1 _ rfl; have d2 := hcz 2 _ rfl
      simp only [Nat.add_zero] at d0
      clear hcz c0 c1 c2
      go_wp2
      go_roundw
      case rel =>
        refine ⟨k + 1, by omega, by go_num, ?_, ?_⟩
        · have e1 : (xs.take k ++ List.replicate (xs.length - k) (⟨⟨0, 0⟩, 0⟩ : En)).set k ⟨⟨f1, f2⟩, f3⟩ = xs.take (k + 1) ++ List.replicate (xs.length - (k + 1)) ⟨⟨0, 0⟩, 0⟩ := by
            rw [List.set_append_right _ _ (by simp; omega), List.take_add_one, HX.out, List.append_assoc]
            congr 1
            rw [show xs.length - k = (xs.length - (k + 1)) + 1 from by omega, List.replicate_succ, List.length_take, Nat.min_eq_left hk]
            simp
          rw [← e1]
          exact HST.out
        · exact (hbr.trans (hb2.mono (by omega))).grown HGR.out (by omega) (fun k hk => by cases hk; omega)
      case measure => simp [intOf]; omega
    · have HE := Lib.hid (show k = xs.length by omega)
      go_wp2
      go_ret
      refine ⟨_, rfl, ?_, hbr⟩
      have := HO.out
      rw [HE.out] at this
      simpa using this
set_option maxHeartbeats 400000 in
theorem szEntryS_any (a : Option Addr) (n cap : Nat) (l : Int) (hn : (n : Int) ≤ 9223372036854775807) (h0 : 0 ≤ l) (h1 : l ≤ 9223372036854775807) (w : World) : Calls Try.prog 15 #[.slice a n cap, .int .i64 l] w fun e w' => e = .returned (.int .i64 (if l < n then -1 else l - n)) ∧ w = w' := by
  by_cases h : l < n
  · rw [if_pos h]
    go_enter Try.func15, Try.ntmps15
    go_wp2
    go_ret
    exact ⟨rfl, rfl⟩
  · rw [if_neg h]
    go_enter Try.func15, Try.ntmps15
    go_wp2
    go_ret
    exact ⟨rfl, rfl⟩
set_option maxHeartbeats 1000000 in
theorem eqEntryS_any (xs ys : List En) (v u : Value) (w : World) (hs : Ens w v xs) (hu : Ens w u ys) : Calls Try.prog 19 #[v, u] w fun e w' => e = .returned (.bool (decide (xs = ys))) ∧ Below w.heap.size w w' := by
  obtain ⟨a, cap, rfl, hlc, hcm, -⟩ := id hs
  obtain ⟨a', cap', rfl, hlc', hcm', -⟩ := id hu
  unfold maxLen at hcm hcm'
  by_cases hne : xs.length = ys.length
  · have HN := Lib.hid hne; clear hne
    obtain ⟨m, hm⟩ : ∃ m, ys.length = m := ⟨_, rfl⟩
    have hm2 : m = xs.length := by rw [← hm]; exact HN.out.symm
    rw [hm, hm2]
    have HM := Lib.hid hm; have HM2 := Lib.hid hm2; clear hm hm2
    go_enter Try.func19, Try.ntmps19
    go_wp2_with fail
    go_loopw [5] (fun i wr => ∃ k : Nat, k ≤ xs.length ∧ i = .int .i64 k ∧ xs.take k = ys.take k ∧ Below w.heap.size w wr) (fun i _ => xs.length - (intOf i).toNat)
    case atStart => exact ⟨0, by omega, rfl, rfl, by (repeat' (first | with_reducible exact Below.refl _ _ | with_reducible assumption | with_reducible refine Below.setCell ?_ ?_ _ | with_reducible refine Below.alloc ?_ ?_ _ | with_reducible refine Below.drew ?_ | with_reducible refine belDrewN ?_ _ | with_reducible refine Below.trans ?_ (Below.mono (by assumption) ?_) | omega | (simp; omega) | (simp; done)))⟩
    case round =>
      obtain ⟨k, hk, rfl, hq, hbr⟩ := hrel
      have HQ := Lib.hid hq; clear hq
      have hs2 := Lib.hid (hs.below hbr); have hu2 := Lib.hid (hu.below hbr)
      have hzr := hbr.size
      by_cases hlt : k < xs.length
      · have hu3 := hu2.out; rw [HM.out, HM2.out] at hu3
        obtain ⟨b, o, f1, f2, f3, rfl, hbl, hx, c0, c1, c2⟩ := hs2.out.at hlt
        obtain ⟨b', o', g1, g2, g3, rfl, hbl', hy, d0, d1, d2⟩ := hu3.at (show k < ys.length by rw [HM.out, HM2.out]; exact hlt)
        have HX := Lib.hid hx; have HY := Lib.hid hy; clear hx hy hu3
        have i1 : (k : Int) < (xs.length : Int) := by omega
        by_cases he : (⟨⟨f1, f2⟩, f3⟩ : En) = ⟨⟨g1, g2⟩, g3⟩
        · have HE := Lib.hid he; clear he
          go_wp2_with fail
          refine wp_region_over (by kernel_rfl) (by kernel_rfl) (fun ov => ?_); have ov0 := fun x => ov x (b) (by (try simp) <;> omega); have ov1 := fun x => ov x (b') (by (try simp) <;> omega); clear ov; (repeat (go_big_quiet_step (first | (go_at_call 46; exact callsOver (eqEntry_b (decide_eq_true HE.out) _))))); refine wpQuiet_nil ?_; intro w9 hw9; have hb_w9 := below_over hw9; clear hw9 ov0 ov1
          go_wp2
          go_roundw
          case rel => exact ⟨k + 1, by omega, by go_num, by rw [List.take_add_one, List.take_add_one, HQ.out, HX.out, HY.out, HE.out], by (repeat' (first | with_reducible exact Below.refl _ _ | with_reducible assumption | with_reducible refine Below.setCell ?_ ?_ _ | with_reducible refine Below.alloc ?_ ?_ _ | with_reducible refine Below.drew ?_ | with_reducible refine belDrewN ?_ _ | with_reducible refine Below.trans ?_ (Below.mono (by assumption) ?_) | omega | (simp; omega) | (simp; done)))⟩
          case measure => simp [intOf]; omega
        · have HE := Lib.hid he; clear he
          go_wp2_with fail
          refine wp_region_over (by kernel_rfl) (by kernel_rfl) (fun ov => ?_); have ov0 := fun x => ov x (b) (by (try simp) <;> omega); have ov1 := fun x => ov x (b') (by (try simp) <;> omega); clear ov; (repeat (go_big_quiet_step (first | (go_at_call 46; exact callsOver (eqEntry_b (decide_eq_false HE.out) _))))); refine wpQuiet_nil ?_; intro w9 hw9; have hb_w9 := below_over hw9; clear hw9 ov0 ov1
          go_wp2
          go_ret
          exact ⟨ret_bool (decide_eq_false (fun h => HE.out (by have h1 := HX.out; have h2 := HY.out; rw [h, h2] at h1; exact (Option.some.inj h1).symm))).symm, by (repeat' (first | with_reducible exact Below.refl _ _ | with_reducible assumption | with_reducible refine Below.setCell ?_ ?_ _ | with_reducible refine Below.alloc ?_ ?_ _ | with_reducible refine Below.drew ?_ | with_reducible refine belDrewN ?_ _ | with_reducible refine Below.trans ?_ (Below.mono (by assumption) ?_) | omega | (simp; omega) | (simp; done)))⟩
      · have HE := Lib.hid (show k = xs.length by omega)
        go_wp2
        go_ret
        exact ⟨ret_bool (decide_eq_true (by have := HQ.out; rw [HE.out, List.take_length, ← HM2.out, ← HM.out, List.take_length] at this; exact this)).symm, by (repeat' (first | with_reducible exact Below.refl _ _ | with_reducible assumption | with_reducible refine Below.setCell ?_ ?_ _ | with_reducible refine Below.alloc ?_ ?_ _ | with_reducible refine Below.drew ?_ | with_reducible refine belDrewN ?_ _ | with_reducible refine Below.trans ?_ (Below.mono (by assumption) ?_) | omega | (simp; omega) | (simp; done)))⟩
  · have HN := Lib.hid (decide_eq_false (fun h : xs = ys => hne (by rw [h])))
    have hb : ((xs.length : Int) == (ys.length : Int)) = false := by simpa using (by omega : (xs.length : Int) ≠ ys.length)
    clear hne
    go_enter Try.func19, Try.ntmps19
    go_wp2
    go_ret
    exact ⟨ret_bool HN.out.symm, by (repeat' (first | with_reducible exact Below.refl _ _ | with_reducible assumption | with_reducible refine Below.setCell ?_ ?_ _ | with_reducible refine Below.alloc ?_ ?_ _ | with_reducible refine Below.drew ?_ | with_reducible refine belDrewN ?_ _ | with_reducible refine Below.trans ?_ (Below.mono (by assumption) ?_) | omega | (simp; omega) | (simp; done)))⟩
theorem eqEntryS_b {xs ys : List En} {v u : Value} {w : World} {r : Bool} (hs : Ens w v xs) (hu : Ens w u ys) (h : decide (xs = ys) = r) : Calls Try.prog 19 #[v, u] w fun e w' => e = .returned (.bool r) ∧ Below w.heap.size w w' := by
  subst h
  exact eqEntryS_any xs ys v u w hs hu
set_option maxHeartbeats 2000000 in
theorem markEntryS_any (base : Nat) (xs : List En) (v : Value) (m : Nat) (w : World) (ho : OwnEn base w v xs) (hn : xs.length ≤ 1048576) (hm : m ≤ 1048576) : Calls Try.prog 27 #[v, .int .i64 (m : Int)] w fun e w' => e = .returned (.int .i64 ((m + 3 * xs.length : Nat) : Int)) ∧ OwnEn base w' v (Enmarks m xs.length) ∧ w.grownBy w' v.ownBlock := by
  rcases OwnSl.form ho with ⟨rfl, rfl⟩ | ⟨g, cap, rfl, hg, hgs, hlc, hcm, -⟩
  · go_enter Try.func27, Try.ntmps27
    go_wp2_with fail
    go_loopw [1, 5] (fun q i wr => q = .int .i64 (m : Int) ∧ i = .int .i64 0 ∧ wr = w) (fun _ _ _ => 0)
    case atStart => exact ⟨rfl, rfl, rfl⟩
    case round =>
      obtain ⟨rfl, rfl, rfl⟩ := hrel
      go_wp2
      go_ret
      exact ⟨rfl, ho, World.grownBy.refl _ _⟩
  · unfold maxLen at hcm
    go_enter Try.func27, Try.ntmps27
    go_wp2_with fail
    go_loopw [1, 5] (fun q i wr => ∃ k : Nat, k ≤ xs.length ∧ i = .int .i64 k ∧ q = .int .i64 ((m + 3 * k : Nat) : Int) ∧ OwnEn base wr (.slice (some ⟨g, 0, none⟩) xs.length cap) (Enmarks m k ++ xs.drop k) ∧ w.grownBy wr (some g)) (fun _ i _ => xs.length - (intOf i).toNat)
    case atStart => exact ⟨0, by omega, rfl, rfl, by simpa [Enmarks] using ho, World.grownBy.refl _ _⟩
    case round =>
      obtain ⟨k, hk, rfl, rfl, hown, hgr⟩ := hrel
      have HO := Lib.hid hown; have HG := Lib.hid hgr; clear hown hgr
      have hgb := HG.out.size
      by_cases hlt : k < xs.length
      · have HL := Lib.hid (show (Enmarks m k ++ xs.drop k).length = xs.length by simp [Enmarks]; omega)
        obtain ⟨f1, f2, f3, hx⟩ : ∃ f1 f2 f3, xs[k]? = some (⟨⟨f1, f2⟩, f3⟩ : En) := ⟨_, _, _, List.getElem?_eq_getElem hlt⟩
        have HX := Lib.hid hx; clear hx
        obtain ⟨hst, hgr⟩ := OwnSl.store (sz := 3) (enc := En.enc) (fun _ => rfl) HL.out.symm HO.out (k := k) (by rw [HL.out]; exact hlt) (EnmarkAt m k)
        have HST := Lib.hid hst; have HGR := Lib.hid hgr; clear hst hgr
        have hfz : ∀ j, wr.frozen? ⟨g, j, none⟩ = false := OwnSl.frz HO.out
        have hcz := OwnSl.cell (sz := 3) (enc := En.enc) (fun _ => rfl) HO.out (k := k) (y := (⟨⟨f1, f2⟩, f3⟩ : En)) (by rw [List.getElem?_append_right (by simp [Enmarks])]; simp [Enmarks]; exact HX.out)
        have d0 := hcz 0 _ rfl; have d1 := hcz 1 _ rfl; have d2 := hcz 2 _ rfl
        simp only [Nat.add_zero] at d0
        clear hcz
        go_wp2
        go_roundw
        case rel =>
          refine ⟨k + 1, by omega, by go_num, by go_num, ?_, ?_⟩
          · have e1 : (Enmarks m k ++ xs.drop k).set k (EnmarkAt m k) = Enmarks m (k + 1) ++ xs.drop (k + 1) := by
              have e0 : (xs.drop k).set 0 (EnmarkAt m k) = EnmarkAt m k :: xs.drop (k + 1) := by rw [List.drop_eq_getElem_cons hlt, List.set_cons_zero]
              rw [List.set_append_right _ _ (by simp [Enmarks])]
              simp [Enmarks, List.range_succ, e0]
            rw [← e1]
            have e2 := HST.out
            simp only [wSet, EnmarkAt] at e2
            refine cast ?_ e2
            first | rfl | (congr 1 <;> (repeat (first | rfl | omega | congr 1)))
          · have e2 := HGR.out
            simp only [wSet, EnmarkAt] at e2
            refine ⟨?_, ?_, ?_, ?_, ?_⟩
            · exact HG.out.os
            · exact HG.out.tape
            · exact HG.out.output
            · simp; omega
            · intro q hq hne
              have hne' : q ≠ g := fun e => hne (by rw [e])
              simp [Below.heap_setCell, hne']
              exact HG.out.block q hq hne
        case measure => simp [intOf]; omega
      · have HE := Lib.hid (show k = xs.length by omega)
        go_wp2
        go_ret
        refine ⟨ret_int (by rw [HE.out]), ?_, HG.out⟩
        have := HO.out
        rw [HE.out, List.drop_length, List.append_nil] at this
        exact this
set_option maxHeartbeats 1000000 in
theorem heldEntryS_any (n : Nat) (v : Value) (m : Nat) (w : World) (hs : Ens w v (Enmarks m n)) (hn : n ≤ 1048576) (hm : m ≤ 1048576) : Calls Try.prog 28 #[v, .int .i64 (m : Int)] w fun e w' => e = .returned (.int .i64 ((m + 3 * n : Nat) : Int)) ∧ w = w' := by
  obtain ⟨a, cap, rfl, hlc, hcm, -⟩ := id hs
  have hl : (Enmarks m n).length = n := by simp [Enmarks]
  rw [hl] at hs hlc ⊢
  have HL := Lib.hid hl; clear hl
  unfold maxLen at hcm
  go_enter Try.func28, Try.ntmps28
  go_wp2_with fail
  go_loop [1, 5] (fun q i => ∃ k : Nat, k ≤ n ∧ i = .int .i64 k ∧ q = .int .i64 ((m + 3 * k : Nat) : Int)) (fun _ i => n - (intOf i).toNat)
  case atStart => exact ⟨0, by omega, rfl, rfl⟩
  case round =>
    obtain ⟨k, hk, rfl, rfl⟩ := hrel
    by_cases hlt : k < n
    · obtain ⟨b, o, f1, f2, f3, rfl, hbl, hx, c0, c1, c2⟩ := hs.at (show k < (Enmarks m n).length by rw [HL.out]; exact hlt)
      rw [Enmarks_get hlt] at hx
      cases hx
      go_wp2
      all_goals first | (exfalso; omega) | skip
      go_round
      case rel => exact ⟨k + 1, by omega, by go_num, by go_num⟩
      case measure => simp [intOf]; omega
    · have HE := Lib.hid (show k = n by omega)
      go_wp2
      go_ret
      exact ⟨ret_int (by rw [HE.out]), rfl⟩
end Go.Proofs.Ytfnfpekjjmejnaa
