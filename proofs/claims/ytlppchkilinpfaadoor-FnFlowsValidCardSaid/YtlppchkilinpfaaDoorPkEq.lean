/- Packets compared with ==. -/
import Derived.Test.YtlppchkilinpfaaDoorRev
import Derived.Laws.StructEq
import Derived.Deep.RegionHeld3
namespace Go.Proofs.YtlppchkilinpfaaDoor
open Go.RowKit
theorem pkStruct : Tryd.prog.underlying 24 = some (.struct (Tryd.prog.fieldsOf 24)) := by kernel_rfl
theorem pkHeld : Tryd.prog.stoodInHeld 24 = false := by kernel_rfl
theorem pkGuard : Tryd.prog.eqGuardType Tryd.prog.depth 24 = false := by kernel_rfl
theorem pk_equal (a b : Pk) (w : World) : (Op.equalIn 10000 24 (Pk.v a) (Pk.v b)).run Tryd.prog w = .ok (decide (a = b)) w := by
  have u3 := Tryd.underlying3
  have a3 := Tryd.isAgg3
  have z3 := Tryd.sizeOf3
  rw [show (10000 : Nat) = 9999 + 1 from rfl, run_equalIn_agg w 9999 _ _ _ pkStruct pkHeld]
  simp only [Program.fieldsOf, Tryd.underlying24]
  go_simp
  obtain ⟨a1, a2, a3, a4⟩ := a
  obtain ⟨b1, b2, b3, b4⟩ := b
  simp only [Pk.mk.injEq]
  by_cases h1 : a1 = b1 <;> by_cases h2 : a2 = b2 <;> by_cases h3 : a3 = b3 <;> by_cases h4 : a4 = b4 <;> simp [h1, h2, h3, h4]

theorem pk_equal' (a1 a2 a3 a4 b1 b2 b3 b4 : Int) (w : World) : (Op.equalIn 10000 24 (.agg #[.int .i64 a1, .int .i64 a2, .int .i64 a3, .int .i64 a4]) (.agg #[.int .i64 b1, .int .i64 b2, .int .i64 b3, .int .i64 b4])).run Tryd.prog w = .ok (decide (Pk.mk a1 a2 a3 a4 = ⟨b1, b2, b3, b4⟩)) w := pk_equal ⟨a1, a2, a3, a4⟩ ⟨b1, b2, b3, b4⟩ w
def sameP (a b : Pk) : Bool := decide (a = b) || decide (a = Pk.revv b)
set_option maxHeartbeats 400000 in
theorem l19Same_eq (a1 a2 a3 a4 : Int) (w : World) :
    Calls Tryd.prog 39 #[.agg #[.int .i64 a1, .int .i64 a2, .int .i64 a3, .int .i64 a4], .agg #[.int .i64 a1, .int .i64 a2, .int .i64 a3, .int .i64 a4]] w fun e w' => e = .returned (.bool true) ∧ Below w.heap.size w w' := by
  have hp := pkGuard
  have hq := pk_equal' a1 a2 a3 a4 a1 a2 a3 a4
  rw [decide_eq_true rfl] at hq
  go_enter Tryd.func39, Tryd.ntmps39
  go_wp2_with fail
  go_quiet (fail)
  go_wp2
  go_ret
  exact ⟨rfl, by (repeat' (first | with_reducible exact Below.refl _ _ | with_reducible assumption | with_reducible refine Below.setCell ?_ ?_ _ | with_reducible refine Below.alloc ?_ ?_ _ | with_reducible refine Below.drew ?_ | with_reducible refine belDrewN ?_ _ | with_reducible refine Below.trans ?_ (Below.mono (by assumption) ?_) | omega | (simp; omega) | (simp; done)))⟩
set_option maxHeartbeats 400000 in
theorem l19Same_ne (a1 a2 a3 a4 b1 b2 b3 b4 : Int) (w : World) (hne : Pk.mk a1 a2 a3 a4 ≠ ⟨b1, b2, b3, b4⟩) :
    Calls Tryd.prog 39 #[.agg #[.int .i64 a1, .int .i64 a2, .int .i64 a3, .int .i64 a4], .agg #[.int .i64 b1, .int .i64 b2, .int .i64 b3, .int .i64 b4]] w fun e w' => e = .returned (.bool (decide (Pk.mk a1 a2 a3 a4 = Pk.revv ⟨b1, b2, b3, b4⟩))) ∧ Below w.heap.size w w' := by
  have hp := pkGuard
  have hq := pk_equal' a1 a2 a3 a4 b1 b2 b3 b4
  rw [decide_eq_false hne] at hq
  obtain ⟨c, hc⟩ : ∃ c, Pk.revv ⟨b1, b2, b3, b4⟩ = c := ⟨_, rfl⟩
  obtain ⟨c1, c2, c3, c4⟩ := c
  have HC := Lib.hid hc
  have hq2 := pk_equal' a1 a2 a3 a4 c1 c2 c3 c4
  clear hc hne
  go_enter Tryd.func39, Tryd.ntmps39
  go_wp2_with fail
  go_region_held3 (fun w' => w'.cell? ⟨w.heap.size, 0, none⟩ = some (.int .i64 a1) ∧ w'.cell? ⟨w.heap.size, 1, none⟩ = some (.int .i64 a2) ∧ w'.cell? ⟨w.heap.size, 2, none⟩ = some (.int .i64 a3) ∧ w'.cell? ⟨w.heap.size, 3, none⟩ = some (.int .i64 a4) ∧ w'.cell? ⟨w.heap.size + 1, 0, none⟩ = some (.int .i64 b1) ∧ w'.cell? ⟨w.heap.size + 1, 1, none⟩ = some (.int .i64 b2) ∧ w'.cell? ⟨w.heap.size + 1, 2, none⟩ = some (.int .i64 b3) ∧ w'.cell? ⟨w.heap.size + 1, 3, none⟩ = some (.int .i64 b4) ∧ w.heap.size < w'.heap.size ∧ w.heap.size + 1 < w'.heap.size ∧ Below w.heap.size w w') ((repeat' apply And.intro) <;> first | (go_keep; done) | omega | (simp; done) | (simp; omega) | ((repeat' (first | with_reducible exact Below.refl _ _ | with_reducible assumption | with_reducible refine Below.setCell ?_ ?_ _ | with_reducible refine Below.alloc ?_ ?_ _ | with_reducible refine Below.drew ?_ | with_reducible refine belDrewN ?_ _ | with_reducible refine Below.trans ?_ (Below.mono (by assumption) ?_) | omega | (simp; omega) | (simp; done))); done))
    (first | (go_at_call 11; refine (specRev_any _ _ _ _ _).mono ?_; rw [HC.out]; rintro e w1 ⟨rfl, hb⟩; have hz := hb.size; have k0 := ownCells hb w.heap.size (by omega); have k1 := ownCells hb (w.heap.size + 1) (by omega)))
  go_wp2
  go_ret
  have hh := ‹_ ∧ _ ∧ _ ∧ _ ∧ _ ∧ _ ∧ _ ∧ _ ∧ _ ∧ _ ∧ Below w.heap.size w w1›
  exact ⟨ret_bool (by rw [HC.out]; simp), hh.2.2.2.2.2.2.2.2.2.2⟩
theorem l19Same_any (a1 a2 a3 a4 b1 b2 b3 b4 : Int) (w : World) :
    Calls Tryd.prog 39 #[.agg #[.int .i64 a1, .int .i64 a2, .int .i64 a3, .int .i64 a4], .agg #[.int .i64 b1, .int .i64 b2, .int .i64 b3, .int .i64 b4]] w fun e w' => e = .returned (.bool (sameP ⟨a1, a2, a3, a4⟩ ⟨b1, b2, b3, b4⟩)) ∧ Below w.heap.size w w' := by
  by_cases h : Pk.mk a1 a2 a3 a4 = ⟨b1, b2, b3, b4⟩
  · obtain ⟨rfl, rfl, rfl, rfl⟩ := Pk.mk.inj h
    exact (l19Same_eq _ _ _ _ w).mono fun e w' ⟨he, hb⟩ => ⟨he.trans (ret_bool (by simp [sameP])), hb⟩
  · exact (l19Same_ne _ _ _ _ _ _ _ _ w h).mono fun e w' ⟨he, hb⟩ => ⟨he.trans (ret_bool (by simp [sameP, h])), hb⟩
theorem l19Same_b {a1 a2 a3 a4 b1 b2 b3 b4 : Int} {r : Bool} (h : sameP ⟨a1, a2, a3, a4⟩ ⟨b1, b2, b3, b4⟩ = r) (w : World) :
    Calls Tryd.prog 39 #[.agg #[.int .i64 a1, .int .i64 a2, .int .i64 a3, .int .i64 a4], .agg #[.int .i64 b1, .int .i64 b2, .int .i64 b3, .int .i64 b4]] w fun e w' => e = .returned (.bool r) ∧ Below w.heap.size w w' := by
  subst h
  exact l19Same_any _ _ _ _ _ _ _ _ w
end Go.Proofs.YtlppchkilinpfaaDoor
