/- Packets: the walks of the functions on one packet. -/
import Derived.Test.YtnnmkdaioajkkaaDoorProg
import Derived.Test.YtnnmkdaioajkkaaDoorBase
namespace Go.Proofs.YtnnmkdaioajkkaaDoor
open Go.RowKit

structure Pk where
  from_ : Int
  to_ : Int
  port : Int
  proto : Int
  deriving DecidableEq
abbrev Pk.enc (p : Pk) : List Value := [.int .i64 p.from_, .int .i64 p.to_, .int .i64 p.port, .int .i64 p.proto]
def Pk.ok (p : Pk) : Bool := inB p.from_ 0 65535 && inB p.to_ 0 65535 && inB p.port 0 255 && inB p.proto 0 7
def Pk.rev (p : Pk) : Pk := ⟨p.to_, p.from_, p.port, p.proto⟩
def Pk.fld (p : Pk) (n : Nat) : Int := match n with | 0 => p.from_ | 1 => p.to_ | 2 => p.port | _ => p.proto
def top (n : Nat) : Int := [65535, 65535, 255, 7].getD n (-1)
theorem ok_iff (p : Pk) : Pk.ok p = true ↔ ∀ j, j < 4 → inB (p.fld j) 0 (top j) = true := by
  constructor
  · intro h j hj
    simp only [Pk.ok, Bool.and_eq_true] at h
    rcases (by omega : j = 0 ∨ j = 1 ∨ j = 2 ∨ j = 3) with rfl | rfl | rfl | rfl <;> simp [Pk.fld, top, h]
  · intro h
    have h0 := h 0 (by omega)
    have h1 := h 1 (by omega)
    have h2 := h 2 (by omega)
    have h3 := h 3 (by omega)
    simp [Pk.fld, top] at h0 h1 h2 h3
    simp [Pk.ok, *]
theorem ok_false (p : Pk) (j : Nat) (hj : j < 4) (h : inB (p.fld j) 0 (top j) = false) : Pk.ok p = false := by
  cases hp : Pk.ok p
  · rfl
  · rw [(ok_iff p).1 hp j hj] at h; cases h

/-- The table of the fields as it lies in the first variable's block. -/
def Tab (w : World) : Prop := 0 < w.heap.size ∧ w.cell? ⟨0, 1, none⟩ = some (.int .i64 65535) ∧ w.cell? ⟨0, 3, none⟩ = some (.int .i64 65535) ∧ w.cell? ⟨0, 5, none⟩ = some (.int .i64 255) ∧ w.cell? ⟨0, 7, none⟩ = some (.int .i64 7)
theorem Tab.below {w w' : World} (h : Tab w) (hb : Below w.heap.size w w') : Tab w' := by
  obtain ⟨h0, h1, h2, h3, h4⟩ := h
  have := hb.size
  refine ⟨by omega, ?_, ?_, ?_, ?_⟩ <;> (rw [hb.cell h0]; assumption)

set_option maxHeartbeats 400000 in
theorem l1In_any (n lo hi : Int) (w : World) :
    Calls Tryd.prog 120 #[.int .i64 n, .int .i64 lo, .int .i64 hi] w fun e w' => e = .returned (.bool (inB n lo hi)) ∧ w = w' := by
  go_enter Tryd.func120, Tryd.ntmps120
  go_wp2
  · go_ret
    exact ⟨ret_bool (by simp [inB, *]), rfl⟩
  · go_ret
    exact ⟨ret_bool (by simp [inB]; omega), rfl⟩
set_option maxHeartbeats 400000 in
theorem FieldTop_any (n : Nat) (hn : n < 4) (w : World) (ht : Tab w) :
    Calls Tryd.prog 129 #[.int .i64 n] w fun e w' => e = .returned (.int .i64 (top n)) ∧ w = w' := by
  obtain ⟨h0, h1, h2, h3, h4⟩ := ht
  rcases (by omega : n = 0 ∨ n = 1 ∨ n = 2 ∨ n = 3) with rfl | rfl | rfl | rfl
  all_goals
    go_enter Tryd.func129, Tryd.ntmps129
    go_wp2
    go_ret
    exact ⟨rfl, rfl⟩
set_option maxHeartbeats 400000 in
theorem fields_any (a b c d : Int) (w : World) :
    Calls Tryd.prog 150 #[.agg #[.int .i64 a, .int .i64 b, .int .i64 c, .int .i64 d]] w fun e w' => e = .returned (.agg #[.int .i64 a, .int .i64 b, .int .i64 c, .int .i64 d]) ∧ Below w.heap.size w w' := by
  go_enter Tryd.func150, Tryd.ntmps150
  go_wp2
  exact bodyPost_ret (v := .agg #[.int .i64 a, .int .i64 b, .int .i64 c, .int .i64 d]) (by simp [results, Tryd.results150, go_sem]) rfl ⟨rfl, ((Below.refl _ _).alloc (Nat.le_refl _) _).alloc (by simp) _⟩
set_option maxHeartbeats 400000 in
theorem pv_any (a b c d : Int) (w : World) (ht : Tab w) :
    Calls Tryd.prog 110 #[.agg #[.int .i64 a, .int .i64 b, .int .i64 c, .int .i64 d]] w fun e w' => e = .returned (.bool (Pk.ok ⟨a,b,c,d⟩)) ∧ Below w.heap.size w w' := by
  go_enter Tryd.func110, Tryd.ntmps110
  go_wp2_with fail
  refine (fields_any a b c d _).mono ?_
  rintro e w1 ⟨rfl, hb⟩
  have hb1 : Below w.heap.size w w1 := ((Below.refl _ _).alloc (Nat.le_refl _) _).trans (hb.mono (by simp))
  clear hb
  go_wp2_with fail
  have ht1 : Tab w1 := ht.below hb1
  clear ht
  go_loopw [7] (fun i wr => ∃ k : Nat, k ≤ 4 ∧ i = .int .i64 k ∧ Tab wr ∧ Below w.heap.size w wr ∧ ∀ j, j < k → inB (Pk.fld ⟨a, b, c, d⟩ j) 0 (top j) = true) (fun i _ => 4 - (intOf i).toNat)
  case atStart => exact ⟨0, by omega, rfl, ht1, hb1, fun j hj => by omega⟩
  case round =>
    obtain ⟨k, hk, rfl, ht2, hb2, hq⟩ := hrel
    have HT := Lib.hid ht2; clear ht2
    have HQ := Lib.hid hq; clear hq
    by_cases h4 : k = 4
    · subst h4
      go_wp2
      go_ret
      exact ⟨ret_bool ((ok_iff _).2 HQ.out).symm, hb2⟩
    · obtain ⟨f, hf⟩ : ∃ f, Pk.fld ⟨a, b, c, d⟩ k = f := ⟨_, rfl⟩
      have HF := Lib.hid hf
      have hx : ∀ w : World, (Instr.index 163 (.agg #[.int .i64 a, .int .i64 b, .int .i64 c, .int .i64 d]) (.int .i64 (k : Int))).run Tryd.prog w = .ok (.int .i64 f) w := by
        subst hf
        intro w
        rcases (by omega : k = 0 ∨ k = 1 ∨ k = 2 ∨ k = 3) with rfl | rfl | rfl | rfl <;> kernel_rfl
      clear hf
      go_wp2_with (go_at_call 129; refine (FieldTop_any _ (by omega) _ HT.out).mono ?_; rintro e w' ⟨rfl, rfl⟩)
      · go_ret
        refine ⟨ret_bool (ok_false _ k (by omega) ?_).symm, hb2⟩
        rw [HF.out]
        rcases ‹f < 0 ∨ top k < f› with h | h
        · exact inB_lo h
        · exact inB_hi h
      · go_roundw
        case rel =>
          refine ⟨k + 1, by omega, by go_num, HT.out, hb2, fun j hj => ?_⟩
          by_cases hjk : j = k
          · subst hjk; rw [HF.out]; exact inB_true (by omega) (by omega)
          · exact HQ.out j (by omega)
        case measure => simp [intOf]; omega
      · go_ret
        refine ⟨ret_bool (ok_false _ k (by omega) ?_).symm, hb2⟩
        rw [HF.out]; exact inB_lo (by assumption)
theorem l1In_b {n lo hi : Int} {r : Bool} (h : inB n lo hi = r) (w : World) : Calls Tryd.prog 120 #[.int .i64 n, .int .i64 lo, .int .i64 hi] w fun e w' => e = .returned (.bool r) ∧ w = w' := by
  subst h
  exact l1In_any n lo hi w
theorem pv_b {a b c d : Int} {r : Bool} (h : Pk.ok ⟨a, b, c, d⟩ = r) {w : World} (ht : Tab w) : Calls Tryd.prog 110 #[.agg #[.int .i64 a, .int .i64 b, .int .i64 c, .int .i64 d]] w fun e w' => e = .returned (.bool r) ∧ Below w.heap.size w w' := by
  subst h
  exact pv_any a b c d w ht
end Go.Proofs.YtnnmkdaioajkkaaDoor
