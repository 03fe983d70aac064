/- Prefixes as ranges, one within another; entries; tables in order. -/
import Derived.Test.YtfnfpekjjmejnaaTbA
import Derived.Test.YtfnfpekjjmejnaaTpW
namespace Go.Proofs.Ytfnfpekjjmejnaa
open Go.RowKit
/-- Two values in a block of the call's own. -/
structure Box2 (w : World) (b : Nat) (v0 v1 : Value) : Prop where
  lt : b < w.heap.size
  c0 : w.cell? ⟨b, 0, none⟩ = some v0
  c1 : w.cell? ⟨b, 1, none⟩ = some v1
  frz : ∀ j, w.frozen? ⟨b, j, none⟩ = false
theorem frz_new' (w : World) (cs : Array Value) (ty : TypeId) (j : Nat) : (w.alloc (.cells cs ty)).frozen? ⟨w.heap.size, j, none⟩ = false := by
  have h : (w.alloc (.cells cs ty)).heap[w.heap.size]? = some (.cells cs ty (0, 0)) := heap_alloc_new w _
  simp only [World.frozen?, h]
  simp
theorem Box2.new (w : World) (v0 v1 : Value) (ty : TypeId) : Box2 (w.alloc (.cells #[v0, v1] ty)) w.heap.size v0 v1 := ⟨by simp, by simp, by simp, frz_new' w _ _⟩
theorem Box2.below {w w' : World} {b : Nat} {v0 v1 : Value} (h : Box2 w b v0 v1) (hb : Below w.heap.size w w') : Box2 w' b v0 v1 :=
  ⟨Nat.lt_of_lt_of_le h.lt hb.size, (hb.cell h.lt).trans h.c0, (hb.cell h.lt).trans h.c1, fun j => (hb.frozen h.lt).trans (h.frz j)⟩
theorem Box2.set {w : World} {b : Nat} {v0 v1 : Value} (h : Box2 w b v0 v1) (u0 u1 : Value) : Box2 ((w.setCell ⟨b, 0, none⟩ u0).setCell ⟨b, 1, none⟩ u1) b u0 u1 := by
  obtain ⟨l, h0, h1, hf⟩ := h
  refine ⟨by simpa [World.setCell] using l, ?_, ?_, fun j => by simpa using hf j⟩
  · rw [World.cell?_setCell_other _ _ _ _ (by simp)]
    exact World.cell?_setCell_same' _ _ _ (by rw [h0]; rfl)
  · exact World.cell?_setCell_same' _ _ _ (by rw [World.cell?_setCell_other _ _ _ _ (by simp), h1]; rfl)
def spanOf (p : Pf) : Value := if p.ok then .tuple #[.agg #[.int .i64 p.b, .int .i64 p.hi], .bool true] else .tuple #[.agg #[.int .i64 0, .int .i64 0], .bool false]
set_option maxHeartbeats 1000000 in
theorem specSpan_no {b l : Int} (h : Pf.ok ⟨b, l⟩ = false) (w : World) :
    Calls Try.prog 73 #[.agg #[.int .i64 b, .int .i64 l]] w fun e w' => e = .returned (.tuple #[.agg #[.int .i64 0, .int .i64 0], .bool false]) ∧ Below w.heap.size w w' := by
  have hB := Box2.new (w.alloc (.cells #[.int .i64 b, .int .i64 l] 33)) (.int .i64 0) (.int .i64 0) 51
  simp only [World.size_alloc] at hB
  go_enter Try.func73, Try.ntmps73
  go_wp2_with fail
  refine (specPf_b h _).mono ?_
  rintro e w1 ⟨rfl, hb⟩
  have hz := hb.size; simp at hz
  obtain ⟨l0, c0, c1, cf⟩ := hB.below hb
  obtain ⟨_, d0, d1, df⟩ := (hB.below hb).set (.int .i64 0) (.int .i64 0)
  clear hB
  go_wp2_with fail
  exact bodyPost_ret (v := .tuple #[.agg #[.int .i64 0, .int .i64 0], .bool false]) (by simp [results, Try.results73, go_sem, d0, d1]) rfl ⟨rfl, by (repeat' (first | with_reducible exact Below.refl _ _ | with_reducible assumption | with_reducible refine Below.setCell ?_ ?_ _ | with_reducible refine Below.alloc ?_ ?_ _ | with_reducible refine Below.drew ?_ | with_reducible refine belDrewN ?_ _ | with_reducible refine Below.trans ?_ (Below.mono (by assumption) ?_) | omega | (simp; omega) | (simp; done)))⟩
set_option maxHeartbeats 1000000 in
theorem specSpan_yes {b l : Int} (h : Pf.ok ⟨b, l⟩ = true) (w : World) :
    Calls Try.prog 73 #[.agg #[.int .i64 b, .int .i64 l]] w fun e w' => e = .returned (.tuple #[.agg #[.int .i64 b, .int .i64 (Pf.hi ⟨b, l⟩)], .bool true]) ∧ Below w.heap.size w w' := by
  obtain ⟨m, k, rfl, rfl, hk, hm, h0⟩ := pf_nat h
  obtain ⟨p1, p2⟩ := two_le (16 - k) (by omega)
  have HI := Lib.hid (show Pf.hi ⟨(m : Int), (k : Int)⟩ = (m : Int) + 2 ^ (16 - k) - 1 by simp only [Pf.hi, pwr_nat hk])
  rw [HI.out]
  have hB := Box2.new (w.alloc (.cells #[.int .i64 m, .int .i64 k] 33)) (.int .i64 0) (.int .i64 0) 51
  simp only [World.size_alloc] at hB
  go_enter Try.func73, Try.ntmps73
  go_wp2_with fail
  refine (specPf_b h _).mono ?_
  rintro e w1 ⟨rfl, hb⟩
  have hz := hb.size; simp at hz
  obtain ⟨l0, c0, c1, cf⟩ := hB.below hb
  obtain ⟨_, d0, d1, df⟩ := (hB.below hb).set (.int .i64 m) (.int .i64 (m + 2 ^ (16 - k) - 1))
  have a0 := ownCells hb w.heap.size (by simp; omega)
  clear hB h h0
  go_wp2_with fail
  go_region
  go_wp2_with fail
  exact bodyPost_ret (v := .tuple #[.agg #[.int .i64 m, .int .i64 (m + 2 ^ (16 - k) - 1)], .bool true]) (by simp [results, Try.results73, go_sem, d0, d1]) rfl ⟨rfl, by (repeat' (first | with_reducible exact Below.refl _ _ | with_reducible assumption | with_reducible refine Below.setCell ?_ ?_ _ | with_reducible refine Below.alloc ?_ ?_ _ | with_reducible refine Below.drew ?_ | with_reducible refine belDrewN ?_ _ | with_reducible refine Below.trans ?_ (Below.mono (by assumption) ?_) | omega | (simp; omega) | (simp; done)))⟩
set_option maxHeartbeats 1000000 in
theorem specWithin_any (a1 a2 b1 b2 : Int) (w : World) :
    Calls Try.prog 66 #[.agg #[.int .i64 a1, .int .i64 a2], .agg #[.int .i64 b1, .int .i64 b2]] w fun e w' => e = .returned (.bool (Pf.within ⟨a1, a2⟩ ⟨b1, b2⟩)) ∧ Below w.heap.size w w' := by
  cases ha : Pf.ok ⟨a1, a2⟩ <;> cases hb0 : Pf.ok ⟨b1, b2⟩
  · go_enter Try.func66, Try.ntmps66
    
    go_wp2_with fail; refine (specSpan_no ha _).mono ?_; rintro e w1 ⟨rfl, hb1⟩; obtain ⟨hc1, hf1⟩ := bcell hb1; have hz1 := hb1.size; (try simp at hz1); (try have hz1_w_0 : w.heap.size < w1.heap.size := (by omega)); (try have hz1_w_1 : w.heap.size + 1 < w1.heap.size := (by omega)); (try have hz1_w_2 : w.heap.size + 2 < w1.heap.size := (by omega)); have k1 := ownCells hb1 w.heap.size (by simp; omega); have k1' := ownCells hb1 (w.heap.size + 1) (by simp)
    go_wp2_with fail; refine (specSpan_no hb0 _).mono ?_; rintro e w2 ⟨rfl, hb2⟩; obtain ⟨hc2, hf2⟩ := bcell hb2; have hz2 := hb2.size; (try simp at hz2); (try have hz2_w_0 : w.heap.size < w2.heap.size := (by omega)); (try have hz2_w_1 : w.heap.size + 1 < w2.heap.size := (by omega)); (try have hz2_w_2 : w.heap.size + 2 < w2.heap.size := (by omega)); (try have hz2_w1_0 : w1.heap.size < w2.heap.size := (by omega)); (try have hz2_w1_1 : w1.heap.size + 1 < w2.heap.size := (by omega)); (try have hz2_w1_2 : w1.heap.size + 2 < w2.heap.size := (by omega))
    go_wp2
    go_ret
    exact ⟨ret_bool (by simp [Pf.within, ha]), by (repeat' (first | with_reducible exact Below.refl _ _ | with_reducible assumption | with_reducible refine Below.setCell ?_ ?_ _ | with_reducible refine Below.alloc ?_ ?_ _ | with_reducible refine Below.drew ?_ | with_reducible refine belDrewN ?_ _ | with_reducible refine Below.trans ?_ (Below.mono (by assumption) ?_) | omega | (simp; omega) | (simp; done)))⟩
  · go_enter Try.func66, Try.ntmps66
    
    go_wp2_with fail; refine (specSpan_no ha _).mono ?_; rintro e w1 ⟨rfl, hb1⟩; obtain ⟨hc1, hf1⟩ := bcell hb1; have hz1 := hb1.size; (try simp at hz1); (try have hz1_w_0 : w.heap.size < w1.heap.size := (by omega)); (try have hz1_w_1 : w.heap.size + 1 < w1.heap.size := (by omega)); (try have hz1_w_2 : w.heap.size + 2 < w1.heap.size := (by omega)); have k1 := ownCells hb1 w.heap.size (by simp; omega); have k1' := ownCells hb1 (w.heap.size + 1) (by simp)
    go_wp2_with fail; refine (specSpan_yes hb0 _).mono ?_; rintro e w2 ⟨rfl, hb2⟩; obtain ⟨hc2, hf2⟩ := bcell hb2; have hz2 := hb2.size; (try simp at hz2); (try have hz2_w_0 : w.heap.size < w2.heap.size := (by omega)); (try have hz2_w_1 : w.heap.size + 1 < w2.heap.size := (by omega)); (try have hz2_w_2 : w.heap.size + 2 < w2.heap.size := (by omega)); (try have hz2_w1_0 : w1.heap.size < w2.heap.size := (by omega)); (try have hz2_w1_1 : w1.heap.size + 1 < w2.heap.size := (by omega)); (try have hz2_w1_2 : w1.heap.size + 2 < w2.heap.size := (by omega))
    go_wp2
    go_ret
    exact ⟨ret_bool (by simp [Pf.within, ha]), by (repeat' (first | with_reducible exact Below.refl _ _ | with_reducible assumption | with_reducible refine Below.setCell ?_ ?_ _ | with_reducible refine Below.alloc ?_ ?_ _ | with_reducible refine Below.drew ?_ | with_reducible refine belDrewN ?_ _ | with_reducible refine Below.trans ?_ (Below.mono (by assumption) ?_) | omega | (simp; omega) | (simp; done)))⟩
  · go_enter Try.func66, Try.ntmps66
    
    go_wp2_with fail; refine (specSpan_yes ha _).mono ?_; rintro e w1 ⟨rfl, hb1⟩; obtain ⟨hc1, hf1⟩ := bcell hb1; have hz1 := hb1.size; (try simp at hz1); (try have hz1_w_0 : w.heap.size < w1.heap.size := (by omega)); (try have hz1_w_1 : w.heap.size + 1 < w1.heap.size := (by omega)); (try have hz1_w_2 : w.heap.size + 2 < w1.heap.size := (by omega)); have k1 := ownCells hb1 w.heap.size (by simp; omega); have k1' := ownCells hb1 (w.heap.size + 1) (by simp)
    go_wp2_with fail; refine (specSpan_no hb0 _).mono ?_; rintro e w2 ⟨rfl, hb2⟩; obtain ⟨hc2, hf2⟩ := bcell hb2; have hz2 := hb2.size; (try simp at hz2); (try have hz2_w_0 : w.heap.size < w2.heap.size := (by omega)); (try have hz2_w_1 : w.heap.size + 1 < w2.heap.size := (by omega)); (try have hz2_w_2 : w.heap.size + 2 < w2.heap.size := (by omega)); (try have hz2_w1_0 : w1.heap.size < w2.heap.size := (by omega)); (try have hz2_w1_1 : w1.heap.size + 1 < w2.heap.size := (by omega)); (try have hz2_w1_2 : w1.heap.size + 2 < w2.heap.size := (by omega))
    go_wp2
    go_ret
    exact ⟨ret_bool (by simp [Pf.within, hb0]), by (repeat' (first | with_reducible exact Below.refl _ _ | with_reducible assumption | with_reducible refine Below.setCell ?_ ?_ _ | with_reducible refine Below.alloc ?_ ?_ _ | with_reducible refine Below.drew ?_ | with_reducible refine belDrewN ?_ _ | with_reducible refine Below.trans ?_ (Below.mono (by assumption) ?_) | omega | (simp; omega) | (simp; done)))⟩
  · generalize hh1 : Pf.hi ⟨a1, a2⟩ = x1
    generalize hh2 : Pf.hi ⟨b1, b2⟩ = x2
    have HW := Lib.hid (show Pf.within ⟨a1, a2⟩ ⟨b1, b2⟩ = (decide (b1 ≤ a1) && decide (x1 ≤ x2)) by simp only [Pf.within, ha, hb0, hh1, hh2, Bool.true_and])
    have HA := Lib.hid (show ∀ w, Calls Try.prog 73 #[.agg #[.int .i64 a1, .int .i64 a2]] w fun e w' => e = .returned (.tuple #[.agg #[.int .i64 a1, .int .i64 x1], .bool true]) ∧ Below w.heap.size w w' from hh1 ▸ specSpan_yes ha)
    have HB := Lib.hid (show ∀ w, Calls Try.prog 73 #[.agg #[.int .i64 b1, .int .i64 b2]] w fun e w' => e = .returned (.tuple #[.agg #[.int .i64 b1, .int .i64 x2], .bool true]) ∧ Below w.heap.size w w' from hh2 ▸ specSpan_yes hb0)
    rw [HW.out]
    clear hh1 hh2 ha hb0
    go_enter Try.func66, Try.ntmps66
    
    go_wp2_with fail; refine (HA.out _).mono ?_; rintro e w1 ⟨rfl, hb1⟩; obtain ⟨hc1, hf1⟩ := bcell hb1; have hz1 := hb1.size; (try simp at hz1); (try have hz1_w_0 : w.heap.size < w1.heap.size := (by omega)); (try have hz1_w_1 : w.heap.size + 1 < w1.heap.size := (by omega)); (try have hz1_w_2 : w.heap.size + 2 < w1.heap.size := (by omega)); have k1 := ownCells hb1 w.heap.size (by simp; omega); have k1' := ownCells hb1 (w.heap.size + 1) (by simp)
    go_wp2_with fail; refine (HB.out _).mono ?_; rintro e w2 ⟨rfl, hb2⟩; obtain ⟨hc2, hf2⟩ := bcell hb2; have hz2 := hb2.size; (try simp at hz2); (try have hz2_w_0 : w.heap.size < w2.heap.size := (by omega)); (try have hz2_w_1 : w.heap.size + 1 < w2.heap.size := (by omega)); (try have hz2_w_2 : w.heap.size + 2 < w2.heap.size := (by omega)); (try have hz2_w1_0 : w1.heap.size < w2.heap.size := (by omega)); (try have hz2_w1_1 : w1.heap.size + 1 < w2.heap.size := (by omega)); (try have hz2_w1_2 : w1.heap.size + 2 < w2.heap.size := (by omega)); have k2 := ownCells hb2 w1.heap.size (by simp)
    go_wp2
    all_goals
      go_ret
      refine ⟨ret_bool ?_, by (repeat' (first | with_reducible exact Below.refl _ _ | with_reducible assumption | with_reducible refine Below.setCell ?_ ?_ _ | with_reducible refine Below.alloc ?_ ?_ _ | with_reducible refine Below.drew ?_ | with_reducible refine belDrewN ?_ _ | with_reducible refine Below.trans ?_ (Below.mono (by assumption) ?_) | omega | (simp; omega) | (simp; done)))⟩
      first | (simp [*]; done) | (simp; omega)
theorem specWithin_b {a1 a2 b1 b2 : Int} {r : Bool} (h : Pf.within ⟨a1, a2⟩ ⟨b1, b2⟩ = r) (w : World) :
    Calls Try.prog 66 #[.agg #[.int .i64 a1, .int .i64 a2], .agg #[.int .i64 b1, .int .i64 b2]] w fun e w' => e = .returned (.bool r) ∧ Below w.heap.size w w' := by
  subst h
  exact specWithin_any _ _ _ _ w
set_option maxHeartbeats 1000000 in
theorem implSpan_yes {b l : Int} (h : Pf.ok ⟨b, l⟩ = true) (w : World) :
    Calls Try.prog 36 #[.agg #[.int .i64 b, .int .i64 l]] w fun e w' => e = .returned (.tuple #[.agg #[.int .i64 b, .int .i64 (Pf.hi ⟨b, l⟩)], .bool true]) ∧ Below w.heap.size w w' := by
  obtain ⟨m, k, rfl, rfl, hk, hm, h0⟩ := pf_nat h
  obtain ⟨p1, p2⟩ := two_le (16 - k) (by omega)
  have HI := Lib.hid (show Pf.hi ⟨(m : Int), (k : Int)⟩ = bits .or .i64 (m : Int) ((2 : Int) ^ (16 - k) - 1) by rw [bits_or_low m (16 - k) (by omega) (by omega) h0]; simp only [Pf.hi, pwr_nat hk])
  rw [HI.out]
  have hB := Box2.new (w.alloc (.cells #[.int .i64 m, .int .i64 k] 33)) (.int .i64 0) (.int .i64 0) 51
  simp only [World.size_alloc] at hB
  go_enter Try.func36, Try.ntmps36
  go_wp2_with fail
  refine (implPf_b h _).mono ?_
  rintro e w1 ⟨rfl, hb⟩
  have hz := hb.size; simp at hz
  obtain ⟨l0, c0, c1, cf⟩ := hB.below hb
  obtain ⟨_, d0, d1, df⟩ := (hB.below hb).set (.int .i64 m) (.int .i64 (bits .or .i64 (m : Int) ((2 : Int) ^ (16 - k) - 1)))
  have a0 := ownCells hb w.heap.size (by simp; omega)
  have hw1 : Below w.heap.size w w1 := by (repeat' (first | with_reducible exact Below.refl _ _ | with_reducible assumption | with_reducible refine Below.setCell ?_ ?_ _ | with_reducible refine Below.alloc ?_ ?_ _ | with_reducible refine Below.drew ?_ | with_reducible refine belDrewN ?_ _ | with_reducible refine Below.trans ?_ (Below.mono (by assumption) ?_) | omega | (simp; omega) | (simp; done)))
  clear hB h h0 hb HI
  go_wp2_with fail
  go_region_held3 (fun W1 => Below w.heap.size w W1 ∧ w.heap.size < W1.heap.size ∧ W1.cell? ⟨w.heap.size, 0, none⟩ = some (.int .i64 m) ∧ W1.cell? ⟨w.heap.size, 1, none⟩ = some (.int .i64 k)) ((repeat' apply And.intro) <;> first | (go_keep; done) | omega | (simp; done) | (simp; omega) | ((repeat' (first | with_reducible exact Below.refl _ _ | with_reducible assumption | with_reducible refine Below.setCell ?_ ?_ _ | with_reducible refine Below.alloc ?_ ?_ _ | with_reducible refine Below.drew ?_ | with_reducible refine belDrewN ?_ _ | with_reducible refine Below.trans ?_ (Below.mono (by assumption) ?_) | omega | (simp; omega) | (simp; done))); done)) (first | (go_at_call 59; refine (hostMask_any k (by omega) _).mono ?_; rintro e _ ⟨rfl, rfl⟩))
  go_wp2_with fail
  exact bodyPost_ret (v := .tuple #[.agg #[.int .i64 m, .int .i64 (bits .or .i64 (m : Int) ((2 : Int) ^ (16 - k) - 1))], .bool true]) (by simp [results, Try.results36, go_sem, d0, d1]) rfl ⟨rfl, by (repeat' (first | with_reducible exact Below.refl _ _ | with_reducible assumption | with_reducible refine Below.setCell ?_ ?_ _ | with_reducible refine Below.alloc ?_ ?_ _ | with_reducible refine Below.drew ?_ | with_reducible refine belDrewN ?_ _ | with_reducible refine Below.trans ?_ (Below.mono (by assumption) ?_) | omega | (simp; omega) | (simp; done)))⟩
set_option maxHeartbeats 1000000 in
theorem implSpan_no {b l : Int} (h : Pf.ok ⟨b, l⟩ = false) (w : World) :
    Calls Try.prog 36 #[.agg #[.int .i64 b, .int .i64 l]] w fun e w' => e = .returned (.tuple #[.agg #[.int .i64 0, .int .i64 0], .bool false]) ∧ Below w.heap.size w w' := by
  have hB := Box2.new (w.alloc (.cells #[.int .i64 b, .int .i64 l] 33)) (.int .i64 0) (.int .i64 0) 51
  simp only [World.size_alloc] at hB
  go_enter Try.func36, Try.ntmps36
  go_wp2_with fail
  refine (implPf_b h _).mono ?_
  rintro e w1 ⟨rfl, hb⟩
  have hz := hb.size; simp at hz
  obtain ⟨l0, c0, c1, cf⟩ := hB.below hb
  obtain ⟨_, d0, d1, df⟩ := (hB.below hb).set (.int .i64 0) (.int .i64 0)
  clear hB
  go_wp2_with fail
  exact bodyPost_ret (v := .tuple #[.agg #[.int .i64 0, .int .i64 0], .bool false]) (by simp [results, Try.results36, go_sem, d0, d1]) rfl ⟨rfl, by (repeat' (first | with_reducible exact Below.refl _ _ | with_reducible assumption | with_reducible refine Below.setCell ?_ ?_ _ | with_reducible refine Below.alloc ?_ ?_ _ | with_reducible refine Below.drew ?_ | with_reducible refine belDrewN ?_ _ | with_reducible refine Below.trans ?_ (Below.mono (by assumption) ?_) | omega | (simp; omega) | (simp; done)))⟩
set_option maxHeartbeats 1000000 in
theorem implWithin_any (a1 a2 b1 b2 : Int) (w : World) :
    Calls Try.prog 34 #[.agg #[.int .i64 a1, .int .i64 a2], .agg #[.int .i64 b1, .int .i64 b2]] w fun e w' => e = .returned (.bool (Pf.within ⟨a1, a2⟩ ⟨b1, b2⟩)) ∧ Below w.heap.size w w' := by
  cases ha : Pf.ok ⟨a1, a2⟩
  · go_enter Try.func34, Try.ntmps34
    
    go_wp2_with fail; refine (implPf_b ha _).mono ?_; rintro e w1 ⟨rfl, hb1⟩; obtain ⟨hc1, hf1⟩ := bcell hb1; have hz1 := hb1.size; (try simp at hz1); (try have hz1_w_0 : w.heap.size < w1.heap.size := (by omega)); (try have hz1_w_1 : w.heap.size + 1 < w1.heap.size := (by omega)); (try have hz1_w_2 : w.heap.size + 2 < w1.heap.size := (by omega))
    go_wp2
    go_ret
    exact ⟨ret_bool (by simp [Pf.within, ha]), by (repeat' (first | with_reducible exact Below.refl _ _ | with_reducible assumption | with_reducible refine Below.setCell ?_ ?_ _ | with_reducible refine Below.alloc ?_ ?_ _ | with_reducible refine Below.drew ?_ | with_reducible refine belDrewN ?_ _ | with_reducible refine Below.trans ?_ (Below.mono (by assumption) ?_) | omega | (simp; omega) | (simp; done)))⟩
  · cases hb0 : Pf.ok ⟨b1, b2⟩
    · go_enter Try.func34, Try.ntmps34
      
      go_wp2_with fail; refine (implPf_b ha _).mono ?_; rintro e w1 ⟨rfl, hb1⟩; obtain ⟨hc1, hf1⟩ := bcell hb1; have hz1 := hb1.size; (try simp at hz1); (try have hz1_w_0 : w.heap.size < w1.heap.size := (by omega)); (try have hz1_w_1 : w.heap.size + 1 < w1.heap.size := (by omega)); (try have hz1_w_2 : w.heap.size + 2 < w1.heap.size := (by omega)); have k1 := ownCells hb1 w.heap.size (by simp; omega); have k1' := ownCells hb1 (w.heap.size + 1) (by simp)
      go_wp2_with fail; refine (implPf_b hb0 _).mono ?_; rintro e w2 ⟨rfl, hb2⟩; obtain ⟨hc2, hf2⟩ := bcell hb2; have hz2 := hb2.size; (try simp at hz2); (try have hz2_w_0 : w.heap.size < w2.heap.size := (by omega)); (try have hz2_w_1 : w.heap.size + 1 < w2.heap.size := (by omega)); (try have hz2_w_2 : w.heap.size + 2 < w2.heap.size := (by omega)); (try have hz2_w1_0 : w1.heap.size < w2.heap.size := (by omega)); (try have hz2_w1_1 : w1.heap.size + 1 < w2.heap.size := (by omega)); (try have hz2_w1_2 : w1.heap.size + 2 < w2.heap.size := (by omega))
      go_wp2
      go_ret
      exact ⟨ret_bool (by simp [Pf.within, hb0]), by (repeat' (first | with_reducible exact Below.refl _ _ | with_reducible assumption | with_reducible refine Below.setCell ?_ ?_ _ | with_reducible refine Below.alloc ?_ ?_ _ | with_reducible refine Below.drew ?_ | with_reducible refine belDrewN ?_ _ | with_reducible refine Below.trans ?_ (Below.mono (by assumption) ?_) | omega | (simp; omega) | (simp; done)))⟩
    · obtain ⟨m, k, rfl, rfl, hk, hm, h0⟩ := pf_nat ha
      obtain ⟨m', k', rfl, rfl, hk', hm', h0'⟩ := pf_nat hb0
      have HW := Lib.hid (show Pf.within ⟨(m : Int), (k : Int)⟩ ⟨(m' : Int), (k' : Int)⟩ = decide (k' ≤ k ∧ m - m % 2 ^ (16 - k') = m') by
        have e1 : ((2 ^ (16 - k) : Nat) : Int) = (2 : Int) ^ (16 - k) := by norm_cast
        have e2 : ((2 ^ (16 - k') : Nat) : Int) = (2 : Int) ^ (16 - k') := by norm_cast
        simp only [Pf.within, ha, hb0, Bool.true_and, Pf.hi, pwr_nat hk, pwr_nat hk', ← e1, ← e2]
        rw [← Bool.decide_and, decide_eq_decide, ← within_nat hk hk' h0 h0']
        omega)
      rw [HW.out]
      obtain ⟨p1, p2⟩ := two_le (16 - k') (by omega)
      by_cases hle : k' ≤ k
      · have hd : decide ((k' : Int) ≤ (k : Int)) = true := by simpa using (by omega : (k' : Int) ≤ k)
        go_enter Try.func34, Try.ntmps34
        
        go_wp2_with fail; refine (implPf_b ha _).mono ?_; rintro e w1 ⟨rfl, hb1⟩; obtain ⟨hc1, hf1⟩ := bcell hb1; have hz1 := hb1.size; (try simp at hz1); (try have hz1_w_0 : w.heap.size < w1.heap.size := (by omega)); (try have hz1_w_1 : w.heap.size + 1 < w1.heap.size := (by omega)); (try have hz1_w_2 : w.heap.size + 2 < w1.heap.size := (by omega)); have k1 := ownCells hb1 w.heap.size (by simp; omega); have k1' := ownCells hb1 (w.heap.size + 1) (by simp)
        go_wp2_with fail; refine (implPf_b hb0 _).mono ?_; rintro e w2 ⟨rfl, hb2⟩; obtain ⟨hc2, hf2⟩ := bcell hb2; have hz2 := hb2.size; (try simp at hz2); (try have hz2_w_0 : w.heap.size < w2.heap.size := (by omega)); (try have hz2_w_1 : w.heap.size + 1 < w2.heap.size := (by omega)); (try have hz2_w_2 : w.heap.size + 2 < w2.heap.size := (by omega)); (try have hz2_w1_0 : w1.heap.size < w2.heap.size := (by omega)); (try have hz2_w1_1 : w1.heap.size + 1 < w2.heap.size := (by omega)); (try have hz2_w1_2 : w1.heap.size + 2 < w2.heap.size := (by omega)); have k2 := ownCells hb2 w.heap.size (by omega); have k2' := ownCells hb2 (w.heap.size + 1) (by omega)
        have hw2 : Below w.heap.size w w2 := by (repeat' (first | with_reducible exact Below.refl _ _ | with_reducible assumption | with_reducible refine Below.setCell ?_ ?_ _ | with_reducible refine Below.alloc ?_ ?_ _ | with_reducible refine Below.drew ?_ | with_reducible refine belDrewN ?_ _ | with_reducible refine Below.trans ?_ (Below.mono (by assumption) ?_) | omega | (simp; omega) | (simp; done)))
        clear ha hb0 hc1 hc2 hf1 hf2 hb1 hb2
        go_wp2_with fail
        refine wp_region_over (by kernel_rfl) (by kernel_rfl) (fun ov => ?_); have ov0 := fun x => ov x (w.heap.size) (by (try simp) <;> omega); have ov1 := fun x => ov x (w.heap.size + 1) (by (try simp) <;> omega); clear ov; (repeat (go_big_quiet_step (first | (go_at_call 59; exact callsOverSame (hostMask_any k' (by omega) _))))); refine wpQuiet_nil ?_; intro w9 hw9; have hb_w9 := below_over hw9; clear hw9 ov0 ov1
        go_wp2
        go_ret
        refine ⟨ret_bool ?_, by (repeat' (first | with_reducible exact Below.refl _ _ | with_reducible assumption | with_reducible refine Below.setCell ?_ ?_ _ | with_reducible refine Below.alloc ?_ ?_ _ | with_reducible refine Below.drew ?_ | with_reducible refine belDrewN ?_ _ | with_reducible refine Below.trans ?_ (Below.mono (by assumption) ?_) | omega | (simp; omega) | (simp; done)))⟩
        rw [bits_andNot_i64 m (16 - k') (by omega) (by omega)]
        generalize m - m % 2 ^ (16 - k') = z
        by_cases hz : z = m'
        · subst hz; simp [hle]
        · simp [hz]; omega
      · have hd : decide ((k' : Int) ≤ (k : Int)) = false := by simpa using (by omega : (k : Int) < k')
        go_enter Try.func34, Try.ntmps34
        
        go_wp2_with fail; refine (implPf_b ha _).mono ?_; rintro e w1 ⟨rfl, hb1⟩; obtain ⟨hc1, hf1⟩ := bcell hb1; have hz1 := hb1.size; (try simp at hz1); (try have hz1_w_0 : w.heap.size < w1.heap.size := (by omega)); (try have hz1_w_1 : w.heap.size + 1 < w1.heap.size := (by omega)); (try have hz1_w_2 : w.heap.size + 2 < w1.heap.size := (by omega)); have k1 := ownCells hb1 w.heap.size (by simp; omega); have k1' := ownCells hb1 (w.heap.size + 1) (by simp)
        go_wp2_with fail; refine (implPf_b hb0 _).mono ?_; rintro e w2 ⟨rfl, hb2⟩; obtain ⟨hc2, hf2⟩ := bcell hb2; have hz2 := hb2.size; (try simp at hz2); (try have hz2_w_0 : w.heap.size < w2.heap.size := (by omega)); (try have hz2_w_1 : w.heap.size + 1 < w2.heap.size := (by omega)); (try have hz2_w_2 : w.heap.size + 2 < w2.heap.size := (by omega)); (try have hz2_w1_0 : w1.heap.size < w2.heap.size := (by omega)); (try have hz2_w1_1 : w1.heap.size + 1 < w2.heap.size := (by omega)); (try have hz2_w1_2 : w1.heap.size + 2 < w2.heap.size := (by omega)); have k2 := ownCells hb2 w.heap.size (by omega); have k2' := ownCells hb2 (w.heap.size + 1) (by omega)
        have hw2 : Below w.heap.size w w2 := by (repeat' (first | with_reducible exact Below.refl _ _ | with_reducible assumption | with_reducible refine Below.setCell ?_ ?_ _ | with_reducible refine Below.alloc ?_ ?_ _ | with_reducible refine Below.drew ?_ | with_reducible refine belDrewN ?_ _ | with_reducible refine Below.trans ?_ (Below.mono (by assumption) ?_) | omega | (simp; omega) | (simp; done)))
        clear ha hb0 hc1 hc2 hf1 hf2 hb1 hb2
        go_wp2_with fail
        refine wp_region_over (by kernel_rfl) (by kernel_rfl) (fun ov => ?_); have ov0 := fun x => ov x (w.heap.size) (by (try simp) <;> omega); have ov1 := fun x => ov x (w.heap.size + 1) (by (try simp) <;> omega); clear ov; (repeat (go_big_quiet_step (first | fail))); refine wpQuiet_nil ?_; intro w9 hw9; have hb_w9 := below_over hw9; clear hw9 ov0 ov1
        go_wp2
        go_ret
        exact ⟨ret_bool (by simp [hle]), by (repeat' (first | with_reducible exact Below.refl _ _ | with_reducible assumption | with_reducible refine Below.setCell ?_ ?_ _ | with_reducible refine Below.alloc ?_ ?_ _ | with_reducible refine Below.drew ?_ | with_reducible refine belDrewN ?_ _ | with_reducible refine Below.trans ?_ (Below.mono (by assumption) ?_) | omega | (simp; omega) | (simp; done)))⟩
theorem implWithin_b {a1 a2 b1 b2 : Int} {r : Bool} (h : Pf.within ⟨a1, a2⟩ ⟨b1, b2⟩ = r) (w : World) :
    Calls Try.prog 34 #[.agg #[.int .i64 a1, .int .i64 a2], .agg #[.int .i64 b1, .int .i64 b2]] w fun e w' => e = .returned (.bool r) ∧ Below w.heap.size w w' := by
  subst h
  exact implWithin_any _ _ _ _ w
set_option maxHeartbeats 1000000 in
theorem entryValid_any (b l v : Int) (w : World) :
    Calls Try.prog 44 #[.agg #[.int .i64 b, .int .i64 l, .int .i64 v]] w fun e w' => e = .returned (.bool (En.ok ⟨⟨b, l⟩, v⟩)) ∧ Below w.heap.size w w' := by
  cases h : Pf.ok ⟨b, l⟩
  · go_enter Try.func44, Try.ntmps44
    
    go_wp2_with fail; refine (implPf_b h _).mono ?_; rintro e w1 ⟨rfl, hb1⟩; obtain ⟨hc1, hf1⟩ := bcell hb1; have hz1 := hb1.size; (try simp at hz1); (try have hz1_w_0 : w.heap.size < w1.heap.size := (by omega)); (try have hz1_w_1 : w.heap.size + 1 < w1.heap.size := (by omega)); (try have hz1_w_2 : w.heap.size + 2 < w1.heap.size := (by omega))
    go_wp2
    go_ret
    exact ⟨ret_bool (by simp [En.ok, h]), by (repeat' (first | with_reducible exact Below.refl _ _ | with_reducible assumption | with_reducible refine Below.setCell ?_ ?_ _ | with_reducible refine Below.alloc ?_ ?_ _ | with_reducible refine Below.drew ?_ | with_reducible refine belDrewN ?_ _ | with_reducible refine Below.trans ?_ (Below.mono (by assumption) ?_) | omega | (simp; omega) | (simp; done)))⟩
  · go_enter Try.func44, Try.ntmps44
    
    go_wp2_with fail; refine (implPf_b h _).mono ?_; rintro e w1 ⟨rfl, hb1⟩; obtain ⟨hc1, hf1⟩ := bcell hb1; have hz1 := hb1.size; (try simp at hz1); (try have hz1_w_0 : w.heap.size < w1.heap.size := (by omega)); (try have hz1_w_1 : w.heap.size + 1 < w1.heap.size := (by omega)); (try have hz1_w_2 : w.heap.size + 2 < w1.heap.size := (by omega)); have k1 := ownCells hb1 w.heap.size (by simp)
    go_wp2
    all_goals
      go_ret
      refine ⟨ret_bool ?_, by (repeat' (first | with_reducible exact Below.refl _ _ | with_reducible assumption | with_reducible refine Below.setCell ?_ ?_ _ | with_reducible refine Below.alloc ?_ ?_ _ | with_reducible refine Below.drew ?_ | with_reducible refine belDrewN ?_ _ | with_reducible refine Below.trans ?_ (Below.mono (by assumption) ?_) | omega | (simp; omega) | (simp; done)))⟩
      simp only [En.ok, h, Bool.true_and, inB]
      first | (simp [*]; done) | (simp; omega)
theorem entryValid_b {b l v : Int} {r : Bool} (h : En.ok ⟨⟨b, l⟩, v⟩ = r) (w : World) :
    Calls Try.prog 44 #[.agg #[.int .i64 b, .int .i64 l, .int .i64 v]] w fun e w' => e = .returned (.bool r) ∧ Below w.heap.size w w' := by
  subst h
  exact entryValid_any _ _ _ w
end Go.Proofs.Ytfnfpekjjmejnaa
