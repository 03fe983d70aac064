/- The law FnExpireFlows: what it says of the reference's function, the draw, and lists of flows compared. -/
import Derived.Test.YtlppchkilinpfaaDoorKFp
import Derived.Test.YtlppchkilinpfaaDoorLFlE
namespace Go.Proofs.YtlppchkilinpfaaDoor
open Go.RowKit
theorem fvalid_pw (xs : List Fl) : fvalid xs = true ↔ xs.length ≤ 20 ∧ (∀ x ∈ xs, fok x = true) ∧ xs.Pairwise (fun y x => sameP y.who x.who = false) := by
  rw [fvalid_iff]
  refine and_congr Iff.rfl ⟨fun h => ⟨fun x hx => ?_, ?_⟩, fun h i x hi hx => ⟨h.1 x (List.mem_of_getElem? hx), fun j y hj hy => ?_⟩⟩
  · obtain ⟨i, hi, rfl⟩ := List.getElem_of_mem hx
    exact (h i _ hi (List.getElem?_eq_getElem hi)).1
  · rw [List.pairwise_iff_getElem]
    intro i j hi hj hij
    exact (h j _ hj (List.getElem?_eq_getElem hj)).2 i _ hij (List.getElem?_eq_getElem hi)
  · obtain ⟨hj1, rfl⟩ := List.getElem?_eq_some_iff.1 hy
    obtain ⟨hi1, rfl⟩ := List.getElem?_eq_some_iff.1 hx
    exact List.pairwise_iff_getElem.1 h.2 j i hj1 hi1 hj
theorem fvalid_filter {xs : List Fl} (h : fvalid xs = true) (p : Fl → Bool) : fvalid (xs.filter p) = true := by
  obtain ⟨h1, h2, h3⟩ := (fvalid_pw xs).1 h
  exact (fvalid_pw _).2 ⟨Nat.le_trans (List.length_filter_le _ _) h1, fun x hx => h2 x (List.mem_filter.1 hx).1, h3.filter p⟩
theorem expire_of {xs : List Fl} {now : Int} (hv : fvalid xs = true) (hn : inB now 0 1000000 = true) : expire xs now = xs.filter (fun f => decide (now ≤ f.til)) := by simp [expire, hv, hn]
theorem expire_valid {xs : List Fl} {now : Int} (hv : fvalid xs = true) (hn : inB now 0 1000000 = true) : fvalid (expire xs now) = true := by
  rw [expire_of hv hn]; exact fvalid_filter hv _
theorem expire_later {xs : List Fl} {now later : Int} (hv : fvalid xs = true) (hn : inB now 0 1000000 = true) (hl : inB later 0 1000000 = true) (h : now ≤ later) : expire (expire xs now) later = expire xs later := by
  rw [expire_of (expire_valid hv hn) hl, expire_of hv hl, expire_of hv hn, List.filter_filter]
  congr 1
  funext f
  by_cases h1 : later ≤ f.til
  · simp [h1, Int.le_trans h h1]
  · simp [h1]
theorem expire_known {xs : List Fl} {now : Int} (hv : fvalid xs = true) (hn : inB now 0 1000000 = true) {k : Nat} {x : Fl} (hx : (expire xs now)[k]? = some x) : known (expire xs now) x.who now = k := by
  have hv' := expire_valid hv hn
  obtain ⟨_, h2⟩ := (fvalid_iff _).1 hv'
  have hk := (List.getElem?_eq_some_iff.1 hx).1
  obtain ⟨g1, g2⟩ := h2 k x hk hx
  have hok : x.who.ok = true := by simp only [fok, Bool.and_eq_true] at g1; exact g1.1
  have ht : now ≤ x.til := by
    have hm := List.mem_of_getElem? hx
    rw [expire_of hv hn] at hm
    simpa using (List.mem_filter.1 hm).2
  refine known_some (by simp [vall, hv', hok, hn]) hx (by simp [kmatch, sameP, ht]) (fun i y hi hy => ?_)
  simp [kmatch, g2 i y hi hy]
theorem expire_bad {xs : List Fl} {now : Int} (h : (fvalid xs && inB now 0 1000000) = false) : expire xs now = [] := by simp [expire, h]
theorem flStruct : Tryd.prog.underlying 45 = some (.struct (Tryd.prog.fieldsOf 45)) := by kernel_rfl
theorem flHeld : Tryd.prog.stoodInHeld 45 = false := by kernel_rfl
theorem flGuard : Tryd.prog.eqGuardType Tryd.prog.depth 45 = false := by kernel_rfl
theorem fl_equal (f1 f2 f3 f4 t : Int) (w : World) : (Op.equalIn 10000 45 (.agg #[.int .i64 f1, .int .i64 f2, .int .i64 f3, .int .i64 f4, .int .i64 t]) (.agg #[.int .i64 f1, .int .i64 f2, .int .i64 f3, .int .i64 f4, .int .i64 t])).run Tryd.prog w = .ok true w := by
  have u3 := Tryd.underlying3
  have a3 := Tryd.isAgg3
  have z3 := Tryd.sizeOf3
  have a4 := Tryd.isAgg24
  have z4 := Tryd.sizeOf24
  rw [show (10000 : Nat) = 9999 + 1 from rfl, run_equalIn_agg w 9999 _ _ _ flStruct flHeld]
  simp only [Program.fieldsOf, Tryd.underlying45]
  have hq : ∀ w, (Op.equalIn 9999 24 (.agg #[.int .i64 f1, .int .i64 f2, .int .i64 f3, .int .i64 f4]) (.agg #[.int .i64 f1, .int .i64 f2, .int .i64 f3, .int .i64 f4])).run Tryd.prog w = .ok true w := by
    intro w
    rw [show (9999 : Nat) = 9998 + 1 from rfl, run_equalIn_agg w 9998 _ _ _ pkStruct pkHeld]
    simp only [Program.fieldsOf, Tryd.underlying24]
    go_simp
  go_simp
set_option maxHeartbeats 1000000 in
theorem sameFlows_eq (xs : List Fl) (v u : Value) (w : World) (hs : Fls w v xs) (hu : Fls w u xs) :
    Calls Tryd.prog 32 #[v, u] w fun e w' => e = .returned (.bool true) ∧ Below w.heap.size w w' := by
  obtain ⟨a, cap, rfl, hlc, hcm, -⟩ := id hs
  obtain ⟨a', cap', rfl, hlc', -, -⟩ := id hu
  unfold maxLen at hcm
  generalize hn : xs.length = n at *
  have HN := Lib.hid hn
  clear hn
  have hp := flGuard
  go_enter Tryd.func32, Tryd.ntmps32
  go_wp2_with fail
  go_loopw [5] (fun i wr => ∃ k : Nat, k ≤ n ∧ i = .int .i64 k ∧ Below w.heap.size w wr) (fun i _ => n - (intOf i).toNat)
  case atStart => exact ⟨0, by omega, rfl, by (repeat' (first | with_reducible exact Below.refl _ _ | with_reducible assumption | with_reducible refine Below.setCell ?_ ?_ _ | with_reducible refine Below.alloc ?_ ?_ _ | with_reducible refine Below.drew ?_ | with_reducible refine belDrewN ?_ _ | with_reducible refine Below.trans ?_ (Below.mono (by assumption) ?_) | omega | (simp; omega) | (simp; done)))⟩
  case round =>
    obtain ⟨k, hk, rfl, hbr⟩ := hrel
    have hzr := hbr.size
    have hs2 := Lib.hid (hs.below hbr)
    have hu2 := Lib.hid (hu.below hbr)
    by_cases hlt : k < n
    · obtain ⟨b, o, f1, f2, f3, f4, t, rfl, hbl, hx, c0, c1, c2, c3, c4⟩ := hs2.out.at (show k < xs.length by rw [HN.out]; exact hlt)
      obtain ⟨b', o', g1, g2, g3, g4, t', rfl, hbl', hx', d0, d1, d2, d3, d4⟩ := hu2.out.at (show k < xs.length by rw [HN.out]; exact hlt)
      rw [hx] at hx'
      cases hx'
      clear hx
      have hq := fl_equal f1 f2 f3 f4 t
      have i1 : (k : Int) < (n : Int) := by omega
      have i2 : (0 : Int) ≤ (k : Int) := by omega
      go_wp2_with fail
      refine wp_region_over (by kernel_rfl) (by kernel_rfl) (fun ov => ?_); have ov0 := fun x => ov x (b) (by (try simp) <;> omega); have ov1 := fun x => ov x (b') (by (try simp) <;> omega); clear ov; (repeat (go_big_quiet_step (first | fail))); refine wpQuiet_nil ?_; intro w9 hw9; have hb_w9 := below_over hw9; clear hw9 ov0 ov1
      go_wp2
      go_roundw
      case rel => exact ⟨k + 1, by omega, by go_num, by (repeat' (first | with_reducible exact Below.refl _ _ | with_reducible assumption | with_reducible refine Below.setCell ?_ ?_ _ | with_reducible refine Below.alloc ?_ ?_ _ | with_reducible refine Below.drew ?_ | with_reducible refine belDrewN ?_ _ | with_reducible refine Below.trans ?_ (Below.mono (by assumption) ?_) | omega | (simp; omega) | (simp; done)))⟩
      case measure => simp [intOf]; omega
    · go_wp2
      go_ret
      exact ⟨rfl, by (repeat' (first | with_reducible exact Below.refl _ _ | with_reducible assumption | with_reducible refine Below.setCell ?_ ?_ _ | with_reducible refine Below.alloc ?_ ?_ _ | with_reducible refine Below.drew ?_ | with_reducible refine belDrewN ?_ _ | with_reducible refine Below.trans ?_ (Below.mono (by assumption) ?_) | omega | (simp; omega) | (simp; done)))⟩
def DrawnEF (w : World) (e : Ending) (w' : World) : Prop := ∃ v' ys t, e = .returned (.tuple #[v', .int .i64 t]) ∧ OwnFl w.heap.size w' v' ys ∧ ys.length ≤ 23 ∧ -1 ≤ t ∧ t ≤ 1000001 ∧ Below w.heap.size w w'
set_option maxHeartbeats 1000000 in
theorem drawEF_any (bs : List Int) (v : Value) (w : World) (h : CodeAt w v bs) : Calls Tryd.prog 31 #[v] w (DrawnEF w) := by
  go_enter Tryd.func31, Tryd.ntmps31
  go_wp2_with fail
  refine (open_any bs _ _ h).mono ?_
  rintro e w1 ⟨R, bs', rfl, hR, hr1, hb1⟩
  have hz1 := hb1.size
  go_wp2_with fail
  refine (drawMo_any R bs' 0 _ hr1 (by omega)).mono ?_
  rintro e w2 ⟨v2, ys, ⟨a, b, c, d⟩, t, q, rfl, ho, hl, ht0, ht1, -, -, hm2⟩
  have hz2 := hm2.size
  have hb2 : Below w.heap.size w w2 := hb1.trans (hm2.below (by omega) (by omega))
  have HO := Lib.hid ho
  clear ho
  go_wp2_with fail
  refine bodyPost_ret (v := .tuple #[v2, .int .i64 t]) (by simp [results, Tryd.results31, go_sem]) rfl ⟨v2, ys, t, rfl, ?_, hl, ht0, ht1, by (repeat' (first | with_reducible exact Below.refl _ _ | with_reducible assumption | with_reducible refine Below.setCell ?_ ?_ _ | with_reducible refine Below.alloc ?_ ?_ _ | with_reducible refine Below.drew ?_ | with_reducible refine belDrewN ?_ _ | with_reducible refine Below.trans ?_ (Below.mono (by assumption) ?_) | omega | (simp; omega) | (simp; done)))⟩
  exact OwnSl.mono (OwnSl.kept HO.out ((Below.refl _ _).alloc (Nat.le_refl _) _)) (by omega)
end Go.Proofs.YtlppchkilinpfaaDoor
