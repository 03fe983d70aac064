/- BoxHas, equal lists, what a list decides, the probe; JudgeFlat. -/
import Derived.Test.YtajcogpfmpehkaaDoorFmK
import Derived.Test.YtajcogpfmpehkaaDoorCuW
import Derived.Test.YtajcogpfmpehkaaDoorRgX
import Derived.Laws.StructEq
import Derived.Test.YtajcogpfmpehkaaDoorRdPk
import Derived.Test.YtajcogpfmpehkaaDoorFmZ
import Derived.Test.YtajcogpfmpehkaaDoorProg
import Derived.Test.YtajcogpfmpehkaaDoorBsA
namespace Go.Proofs.YtajcogpfmpehkaaDoor
open Go.RowKit
/-- A drawn rule's box: n sets. -/
def FtOk (n : Nat → Prop) (fs : List Ft) : Prop := ∀ (k : Nat) f, fs[k]? = some f → n f.box.length ∧ ∀ (j : Nat) xs, f.box[j]? = some xs → xs.length ≤ 40
theorem FtOk.snoc {n : Nat → Prop} {fs : List Ft} (h : FtOk n fs) {f : Ft} (h1 : n f.box.length) (h2 : ∀ (j : Nat) xs, f.box[j]? = some xs → xs.length ≤ 40) : FtOk n (fs ++ [f]) := by
  intro k y hk
  by_cases hl : k < fs.length
  · rw [List.getElem?_append_left hl] at hk; exact h k y hk
  · have := (List.getElem?_eq_some_iff.1 hk).1
    simp at this
    obtain rfl : k = fs.length := by omega
    simp at hk
    subst hk; exact ⟨h1, h2⟩
theorem spStruct : Tryd.prog.underlying 70 = some (.struct (Tryd.prog.fieldsOf 70)) := by kernel_rfl
theorem spHeld : Tryd.prog.stoodInHeld 70 = false := by kernel_rfl
theorem spGuard : Tryd.prog.eqGuardType Tryd.prog.depth 70 = false := by kernel_rfl
theorem sp_equal (a1 a2 : Int) (w : World) : (Op.equalIn 10000 70 (.agg #[.int .i64 a1, .int .i64 a2]) (.agg #[.int .i64 a1, .int .i64 a2])).run Tryd.prog w = .ok true w := by
  have u3 := Tryd.underlying3
  have a3 := Tryd.isAgg3
  have z3 := Tryd.sizeOf3
  rw [show (10000 : Nat) = 9999 + 1 from rfl, run_equalIn_agg w 9999 _ _ _ spStruct spHeld]
  simp only [Program.fieldsOf, Tryd.underlying70]
  go_simp
set_option maxHeartbeats 2000000 in
theorem sameSpans_e {lo lo' : Nat} {xs : List Sp} {v u : Value} {w : World} (hs : Sps lo w v xs) (hu : Sps lo' w u xs) :
    Calls Tryd.prog 65 #[v, u] w fun e w' => e = .returned (.bool true) ∧ Below w.heap.size w w' := by
  obtain ⟨a, cap, rfl, hlc, hcm⟩ := hs.form
  obtain ⟨a', cap', rfl, hlc', hcm'⟩ := hu.form
  unfold maxLen at hcm hcm'
  generalize hn : xs.length = n at *
  have HN := Lib.hid hn
  have hp := spGuard
  clear hn
  go_enter Tryd.func65, Tryd.ntmps65
  go_wp2_with fail
  go_loopw [5] (fun i wr => ∃ k : Nat, k ≤ n ∧ i = .int .i64 k ∧ Below w.heap.size w wr) (fun i _ => n - (intOf i).toNat)
  case atStart => exact ⟨0, by omega, rfl, Below.refl _ _⟩
  case round =>
    obtain ⟨k, hk, rfl, hbr⟩ := hrel
    have hs2 := hs.below hbr
    have hu2 := hu.below hbr
    have hzr := hbr.size
    by_cases hlt : k < n
    · obtain ⟨b, o, f1, f2, rfl, hbl, hx, c0, c1⟩ := hs2.at (show k < xs.length by rw [HN.out]; exact hlt)
      obtain ⟨b', o', g1, g2, rfl, hbl', hy, d0, d1⟩ := hu2.at (show k < xs.length by rw [HN.out]; exact hlt)
      rw [hx] at hy
      obtain ⟨rfl, rfl⟩ := Sp.mk.inj (Option.some.inj hy)
      have i1 : (k : Int) < (n : Int) := by omega
      have i2 : (0 : Int) ≤ (k : Int) := by omega
      have hq := sp_equal f1 f2
      clear hx hy
      go_wp2_with fail
      go_quiet (fail)
      go_wp2
      go_roundw
      case rel => exact ⟨k + 1, by omega, by go_num, by (repeat' (first | with_reducible exact Below.refl _ _ | with_reducible assumption | with_reducible refine Below.setCell ?_ ?_ _ | with_reducible refine Below.alloc ?_ ?_ _ | with_reducible refine Below.drew ?_ | with_reducible refine belDrewN ?_ _ | with_reducible refine Below.trans ?_ (Below.mono (by assumption) ?_) | omega | (simp; omega) | (simp; done)))⟩
      case measure => simp [intOf]; omega
    · go_wp2
      go_ret
      exact ⟨rfl, hbr⟩
set_option maxHeartbeats 2000000 in
theorem sameBox_e {lo lo' : Nat} {xs : Bx} {v u : Value} {w : World} (hs : Rws lo w v xs) (hu : Rws lo' w u xs) :
    Calls Tryd.prog 25 #[.agg #[v], .agg #[u]] w fun e w' => e = .returned (.bool true) ∧ Below w.heap.size w w' := by
  obtain ⟨a, cap, rfl, hlc, hcm⟩ := hs.form
  obtain ⟨a', cap', rfl, hlc', hcm'⟩ := hu.form
  unfold maxLen at hcm hcm'
  generalize hn : xs.length = n at *
  have HN := Lib.hid hn
  clear hn
  have hal : Below w.heap.size w ((w.alloc (.cells #[.slice a n cap] 32)).alloc (.cells #[.slice a' n cap'] 32)) := by (repeat' (first | with_reducible exact Below.refl _ _ | with_reducible assumption | with_reducible refine Below.setCell ?_ ?_ _ | with_reducible refine Below.alloc ?_ ?_ _ | with_reducible refine Below.drew ?_ | with_reducible refine belDrewN ?_ _ | with_reducible refine Below.trans ?_ (Below.mono (by assumption) ?_) | omega | (simp; omega) | (simp; done)))
  obtain ⟨W, hW⟩ : ∃ W, (w.alloc (.cells #[.slice a n cap] 32)).alloc (.cells #[.slice a' n cap'] 32) = W := ⟨_, rfl⟩
  have q0 : W.cell? ⟨w.heap.size, 0, none⟩ = some (.slice a n cap) := by rw [← hW]; simp
  have q1 : W.cell? ⟨w.heap.size + 1, 0, none⟩ = some (.slice a' n cap') := by rw [← hW]; simp
  have qs : w.heap.size < W.heap.size := by rw [← hW]; simp; omega
  have qt : w.heap.size + 1 < W.heap.size := by rw [← hW]; simp
  rw [hW] at hal
  have hsW := hs.below hal
  have huW := hu.below hal
  clear hs hu
  go_enter Tryd.func25, Tryd.ntmps25
  go_wp2_with fail
  go_loopw [5] (fun i wr => ∃ k : Nat, k ≤ n ∧ i = .int .i64 k ∧ Below W.heap.size W wr) (fun i _ => n - (intOf i).toNat)
  case atStart => exact ⟨0, by omega, rfl, Below.refl _ _⟩
  case round =>
    obtain ⟨k, hk, rfl, hbr⟩ := hrel
    have hs2 := hsW.below hbr
    have hu2 := huW.below hbr
    have hzr := hbr.size
    have c0 := (hbr.cell (p := ⟨w.heap.size, 0, none⟩) qs).trans q0
    have c1 := (hbr.cell (p := ⟨w.heap.size + 1, 0, none⟩) qt).trans q1
    have rs : w.heap.size < wr.heap.size := by omega
    have rt : w.heap.size + 1 < wr.heap.size := by omega
    by_cases hlt : k < n
    · obtain ⟨x, hx⟩ : ∃ x, xs[k]? = some x := ⟨_, List.getElem?_eq_getElem (by rw [HN.out]; exact hlt)⟩
      obtain ⟨b, o, sv, rfl, hbl, d0, hsv⟩ := hs2.at hx
      obtain ⟨b', o', su, rfl, hbl', d1, hsu⟩ := hu2.at hx
      have HSV := Lib.hid hsv; have HSU := Lib.hid hsu
      clear hx hsv hsu
      have i1 : (k : Int) < (n : Int) := by omega
      have i2 : (0 : Int) ≤ (k : Int) := by omega
      go_wp2_with fail
      refine wp_region_over (by kernel_rfl) (by kernel_rfl) (fun ov => ?_); have ov0 := fun x => ov x (b) (by (try simp) <;> omega); have ov1 := fun x => ov x (b') (by (try simp) <;> omega); have ov2 := fun x => ov x (w.heap.size) (by (try simp) <;> omega); have ov3 := fun x => ov x (w.heap.size + 1) (by (try simp) <;> omega); clear ov; (iterate 9 (iterate 8 (try go_big_quiet_step (first | (go_at_call 65; with_reducible exact callsOver (sameSpans_e (HSV.out.below (over_below _ _)) (HSU.out.below (over_below _ _)))))))); refine wpQuiet_nil ?_; intro w9 hw9; have hb_w9 := below_over hw9; clear hw9 ov0 ov1 ov2 ov3
      have hb9 : Below W.heap.size W w9 := hbr.trans (hb_w9.mono hzr)
      clear hb_w9
      go_wp2
      go_roundw
      case rel => exact ⟨k + 1, by omega, by go_num, hb9⟩
      case measure => simp [intOf]; omega
    · go_wp2
      go_ret
      exact ⟨rfl, hal.trans (hbr.mono hal.size)⟩
/-- What the first box with the packet decides, or r. -/
def jw : List Ft → Bool → Pk → Bool
  | [], r, _ => r
  | f :: fs, r, p => if bhas f.box p then f.acc else jw fs r p
def jfl (fs : List Ft) (r : Bool) (p : Pk) : Bool := fvalid fs && p.ok && jw fs r p
theorem Box4.put {w : World} {b : Nat} {v0 v1 v2 v3 : Int} (h : Box4 w b v0 v1 v2 v3) {j : Nat} (hj : j < 4) (v : Int) : ∃ u0 u1 u2 u3, Box4 (w.setCell ⟨b, j, none⟩ (.int .i64 v)) b u0 u1 u2 u3 := by
  rcases (by omega : j = 0 ∨ j = 1 ∨ j = 2 ∨ j = 3) with rfl | rfl | rfl | rfl
  · exact ⟨_, _, _, _, (h.set v).1⟩
  · exact ⟨_, _, _, _, (h.set v).2.1⟩
  · exact ⟨_, _, _, _, (h.set v).2.2.1⟩
  · exact ⟨_, _, _, _, (h.set v).2.2.2⟩
theorem Box4.far {w : World} {b : Nat} {v0 v1 v2 v3 : Int} (h : Box4 w b v0 v1 v2 v3) {p : Addr} (hp : p.block ≠ b) (u : Value) : Box4 (w.setCell p u) b v0 v1 v2 v3 :=
  h.mv (R := p.block) (B := w.heap.size) ⟨rfl, rfl, rfl, by simp, fun k _ hne => Below.heap_setCell _ _ _ _ hne⟩ h.lt (fun e => hp e.symm)
/-- The numbers of the probe in the making: some four. -/
def PbSt (w wr : World) : Prop := (∃ v0 v1 v2 v3, Box4 wr (w.heap.size + 1 + 1) v0 v1 v2 v3) ∧ Box4 wr w.heap.size 0 0 0 0 ∧ Below w.heap.size w wr
theorem PbSt.put {w wr : World} (h : PbSt w wr) {j : Nat} (hj : j < 4) (v : Int) : PbSt w (wr.setCell ⟨w.heap.size + 1 + 1, j, none⟩ (.int .i64 v)) :=
  let ⟨⟨v0, v1, v2, v3, h1⟩, h2, h3⟩ := h
  ⟨h1.put hj v, h2.far (by simp only; omega) _, h3.setCell (by simp only; omega) _⟩
/-- A fresh packet's block. -/
def FPk (base : Nat) : World → Value → Prop := fun w v => ∃ B, v = .pointer (some ⟨B, 0, none⟩) ∧ base ≤ B ∧ Box4 w B 0 0 0 0
def FPr : World → Value → Prop := fun _ v => ∃ a b c d : Int, v = .agg #[.int .i64 a, .int .i64 b, .int .i64 c, .int .i64 d]
/-- Where the drawn packet lies. -/
def GPk (i : Nat) : Nat → World → Value → Prop := fun j w v => j = i → ∃ (B : Nat) (a b c d : Int), v = .pointer (some ⟨B, 0, none⟩) ∧ Box4 w B a b c d
theorem Box4.all {w : World} {B : Nat} {u0 u1 u2 u3 : Int} (h : Box4 w B u0 u1 u2 u3) (a b c d : Int) : Box4 ((((w.setCell ⟨B, 0, none⟩ (.int .i64 a)).setCell ⟨B, 1, none⟩ (.int .i64 b)).setCell ⟨B, 2, none⟩ (.int .i64 c)).setCell ⟨B, 3, none⟩ (.int .i64 d)) B a b c d :=
  ((((h.set a).1.set b).2.1.set c).2.2.1.set d).2.2.2
set_option maxHeartbeats 400000 in
theorem have_one (b : Nat) (w : World) (hb : b < w.heap.size) (h0 : w.cell? ⟨b, 0, none⟩ = some (.int .i64 2)) (h1 : w.cell? ⟨b, 1, none⟩ = some (.int .i64 4)) :
    Calls Tryd.prog 40 #[.slice (some ⟨b, 0, none⟩) 1 1, .int .i64 3] w fun e w' => e = .returned (.bool true) ∧ Below w.heap.size w w' := by
  go_enter Tryd.func40, Tryd.ntmps40
  go_wp2_with fail
  go_loopw [9] (fun i wr => i = .int .i64 0 ∧ Below w.heap.size w wr) (fun _ _ => 0)
  case atStart => exact ⟨rfl, by (repeat' (first | with_reducible exact Below.refl _ _ | with_reducible assumption | with_reducible refine Below.setCell ?_ ?_ _ | with_reducible refine Below.alloc ?_ ?_ _ | with_reducible refine Below.drew ?_ | with_reducible refine belDrewN ?_ _ | with_reducible refine Below.trans ?_ (Below.mono (by assumption) ?_) | omega | (simp; omega) | (simp; done)))⟩
  case round =>
    obtain ⟨rfl, hb2⟩ := hrel
    have c0 := (hb2.cell (p := ⟨b, 0, none⟩) hb).trans h0
    have c1 := (hb2.cell (p := ⟨b, 1, none⟩) hb).trans h1
    have hz2 := hb2.size
    go_wp2
    go_ret
    exact ⟨rfl, by (repeat' (first | with_reducible exact Below.refl _ _ | with_reducible assumption | with_reducible refine Below.setCell ?_ ?_ _ | with_reducible refine Below.alloc ?_ ?_ _ | with_reducible refine Below.drew ?_ | with_reducible refine belDrewN ?_ _ | with_reducible refine Below.trans ?_ (Below.mono (by assumption) ?_) | omega | (simp; omega) | (simp; done)))⟩
set_option maxHeartbeats 400000 in
theorem alive_any (w : World) : Calls Tryd.prog 12 #[] w fun e w' => e = .returned (.bool true) ∧ Below w.heap.size w w' := by
  go_enter Tryd.func12, Tryd.ntmps12
  go_wp2_with fail
  refine (have_one _ _ (by simp) (by simp) (by simp)).mono ?_
  rintro e w1 ⟨rfl, hb1⟩
  go_wp2
  go_ret
  exact ⟨rfl, by (repeat' (first | with_reducible exact Below.refl _ _ | with_reducible assumption | with_reducible refine Below.setCell ?_ ?_ _ | with_reducible refine Below.alloc ?_ ?_ _ | with_reducible refine Below.drew ?_ | with_reducible refine belDrewN ?_ _ | with_reducible refine Below.trans ?_ (Below.mono (by assumption) ?_) | omega | (simp; omega) | (simp; done)))⟩
end Go.Proofs.YtajcogpfmpehkaaDoor
