/- BoxHas, equal lists, what a list decides, the probe; JudgeFlat. -/
import Derived.Test.YtajcogpfmpehkaaDoorFmK
import Derived.Test.YtajcogpfmpehkaaDoorCuW
import Derived.Test.YtajcogpfmpehkaaDoorRgX
import Derived.Laws.StructEq
import Derived.Test.YtajcogpfmpehkaaDoorRdPk
import Derived.Test.YtajcogpfmpehkaaDoorFmZ
import Derived.Test.YtajcogpfmpehkaaDoorProg
import Derived.Test.YtajcogpfmpehkaaDoorBsA
namespace Go.Proofs.YtajcogpfmpehkaaDoor
open Go.RowKit
/-- A drawn rule's box: n sets. -/
def FtOk (n : Nat → Prop) (fs : List Ft) : Prop := ∀ (k : Nat) f, fs[k]? = some f → n f.box.length ∧ ∀ (j : Nat) xs, f.box[j]? = some xs → xs.length ≤ 40
theorem FtOk.snoc {n : Nat → Prop} {fs : List Ft} (h : FtOk n fs) {f : Ft} (h1 : n f.box.length) (h2 : ∀ (j : Nat) xs, f.box[j]? = some xs → xs.length ≤ 40) : FtOk n (fs ++ [f]) := by
  intro k y hk
  by_cases hl : k < fs.length
  · rw [List.getElem?_append_left hl] at hk; exact h k y hk
  · have := (List.getElem?_eq_some_iff.1 hk).1
    simp at this
    obtain rfl : k = fs.length := by omega
    simp at hk
    subst hk; exact ⟨h1, h2⟩
set_option maxHeartbeats 2000000 in
set_option maxRecDepth 100000 in
theorem implBH_b {lo : Nat} {b : Bx} {v : Value} {p1 p2 p3 p4 : Int} {w : World} {r : Bool} (hs : Rws lo w v b) (ht : Tab w) (h : (bvalid b && Pk.ok ⟨p1, p2, p3, p4⟩ && bhas b ⟨p1, p2, p3, p4⟩) = r) :
    Calls Tryd.prog 27 #[.agg #[v], .agg #[.int .i64 p1, .int .i64 p2, .int .i64 p3, .int .i64 p4]] w fun e w' => e = .returned (.bool r) ∧ Below w.heap.size w w' := by
  subst h
  obtain ⟨a, cap, rfl, hlc, hcm⟩ := hs.form
  generalize hn : b.length = n at *
  have hal : Below w.heap.size w ((w.alloc (.cells #[.slice a n cap] 32)).alloc (.cells #[.int .i64 p1, .int .i64 p2, .int .i64 p3, .int .i64 p4] 39)) := by (repeat' (first | with_reducible exact Below.refl _ _ | with_reducible assumption | with_reducible refine Below.setCell ?_ ?_ _ | with_reducible refine Below.alloc ?_ ?_ _ | with_reducible refine Below.drew ?_ | with_reducible refine belDrewN ?_ _ | with_reducible refine Below.trans ?_ (Below.mono (by assumption) ?_) | omega | (simp; omega) | (simp; done)))
  obtain ⟨W, hW⟩ : ∃ W, (w.alloc (.cells #[.slice a n cap] 32)).alloc (.cells #[.int .i64 p1, .int .i64 p2, .int .i64 p3, .int .i64 p4] 39) = W := ⟨_, rfl⟩
  have b0 : W.cell? ⟨w.heap.size, 0, none⟩ = some (.slice a n cap) := by rw [← hW]; simp
  have r0 : W.cell? ⟨w.heap.size + 1, 0, none⟩ = some (.int .i64 p1) := by rw [← hW]; simp
  have r1 : W.cell? ⟨w.heap.size + 1, 1, none⟩ = some (.int .i64 p2) := by rw [← hW]; simp
  have r2 : W.cell? ⟨w.heap.size + 1, 2, none⟩ = some (.int .i64 p3) := by rw [← hW]; simp
  have r3 : W.cell? ⟨w.heap.size + 1, 3, none⟩ = some (.int .i64 p4) := by rw [← hW]; simp
  have qb : w.heap.size < W.heap.size := by rw [← hW]; simp; omega
  have qp : w.heap.size + 1 < W.heap.size := by rw [← hW]; simp
  rw [hW] at hal
  have hsW := hs.below hal
  have htW := ht.below hal
  clear hs ht
  cases hv : bvalid b
  · go_enter Tryd.func27, Tryd.ntmps27
    go_wp2_with fail
    refine wp_region_over (by kernel_rfl) (by kernel_rfl) (fun ov => ?_); have ov0 := fun x => ov x (w.heap.size) (by (try simp) <;> omega); clear ov; (iterate 9 (iterate 8 (try go_big_quiet_step (first | (go_at_call 55; with_reducible exact callsOver (implBV_b (hsW.below (over_below _ _)) (htW.below (over_below _ _)) hv)))))); refine wpQuiet_nil ?_; intro w9 hw9; have hb_w9 := below_over hw9; clear hw9 ov0
    have hw9 := hal.trans (hb_w9.mono hal.size)
    go_wp2
    go_ret
    exact ⟨ret_bool (by simp), hw9⟩
  · cases hp : Pk.ok ⟨p1, p2, p3, p4⟩
    · go_enter Tryd.func27, Tryd.ntmps27
      go_wp2_with fail
      refine wp_region_over (by kernel_rfl) (by kernel_rfl) (fun ov => ?_); have ov0 := fun x => ov x (w.heap.size) (by (try simp) <;> omega); have ov1 := fun x => ov x (w.heap.size + 1) (by (try simp) <;> omega); clear ov; (iterate 9 (iterate 8 (try go_big_quiet_step (first | (go_at_call 55; with_reducible exact callsOver (implBV_b (hsW.below (over_below _ _)) (htW.below (over_below _ _)) hv)) | (go_at_call 17; with_reducible exact callsOver (pv_b hp (htW.below (over_below _ _)))))))); refine wpQuiet_nil ?_; intro w9 hw9; have hb_w9 := below_over hw9; clear hw9 ov0 ov1
      have hw9 := hal.trans (hb_w9.mono hal.size)
      go_wp2
      go_ret
      exact ⟨ret_bool (by simp), hw9⟩
    · have h4 := (bvalid_four hv).1
      have HV := Lib.hid hv
      obtain ⟨r, hr⟩ : ∃ r, bhas b ⟨p1, p2, p3, p4⟩ = r := ⟨_, rfl⟩
      have HR := Lib.hid hr
      go_enter Tryd.func27, Tryd.ntmps27
      go_wp2_with fail
      (refine wp_region_belG (W := W) [BIs (.agg #[.slice a n cap]), (BIs (.bool true)), BIs (.bool true), BIs (.agg #[.int .i64 p1, .int .i64 p2, .int .i64 p3, .int .i64 p4]), (BIs (.bool true)), BIs (.bool true), BIs (.bool true), BIs (.agg #[.slice a n cap]), (fun w u => ∃ v0 v1 v2 v3, u = .agg #[v0, v1, v2, v3] ∧ All2 (Sps lo w) [v0, v1, v2, v3] b), BIs (.agg #[.int .i64 p1, .int .i64 p2, .int .i64 p3, .int .i64 p4]), (BIs (.bool r)), BIs (.bool r), BIs (.bool r)] (by kernel_rfl) (fun u => by simp only [frU, Act.put, List.setIfInBounds_toArray, List.set_cons_succ, List.set_cons_zero, Nat.zero_add, Nat.reduceAdd]; exact rfl) (by kernel_rfl) ⟨bst_is _, (bst_is _), bst_is _, bst_is _, (bst_is _), bst_is _, bst_is _, bst_is _, (fun _ _ _ hb h => (let ⟨v0, v1, v2, v3, h1, h2⟩ := h; ⟨v0, v1, v2, v3, h1, h2.mono (fun _ _ h => h.below hb)⟩)), bst_is _, (bst_is _), bst_is _, bst_is _, trivial⟩ ?_ ?_; exact ⟨stG (fun u w3 hC hd => ⟨rfl, fun Q K hK => by (have e0 := (hC.cell (p := ⟨w.heap.size, 0, none⟩) qb).trans b0; go_step; exact hK _ _ rfl (Below.refl _ _) rfl)⟩), stG (fun u w3 hC hd => ⟨rfl, fun Q K hK => by (have hu := bis (w := w3) (hd 0 rfl); rw [hu] at hK ⊢; clear hu; go_step; refine (implBV_b (hsW.below hC) (htW.below hC) hv).mono ?_; rintro e w4 ⟨rfl, hb4⟩; exact hK _ _ rfl hb4 rfl)⟩), stG (fun u w3 hC hd => ⟨rfl, fun Q K hK => by (have hu := bis (w := w3) (hd 1 rfl); rw [hu] at hK ⊢; clear hu; go_step; exact hK _ _ rfl (Below.refl _ _) rfl)⟩), stG (fun u w3 hC hd => ⟨by (have hu := bis (w := w3) (hd 2 rfl); rw [hu]; rfl), fun Q K hK => by (have e0 := (hC.cell (p := ⟨w.heap.size + 1, 0, none⟩) qp).trans r0; have e1 := (hC.cell (p := ⟨w.heap.size + 1, 1, none⟩) qp).trans r1; have e2 := (hC.cell (p := ⟨w.heap.size + 1, 2, none⟩) qp).trans r2; have e3 := (hC.cell (p := ⟨w.heap.size + 1, 3, none⟩) qp).trans r3; go_step; exact hK _ _ rfl (Below.refl _ _) rfl)⟩), stG (fun u w3 hC hd => ⟨by (have hu := bis (w := w3) (hd 2 rfl); rw [hu]; rfl), fun Q K hK => by (have hu := bis (w := w3) (hd 3 rfl); rw [hu] at hK ⊢; clear hu; go_step; refine (pv_b hp (htW.below hC)).mono ?_; rintro e w4 ⟨rfl, hb4⟩; exact hK _ _ rfl hb4 rfl)⟩), stG (fun u w3 hC hd => ⟨rfl, fun Q K hK => by (have hu := bis (w := w3) (hd 2 rfl); rw [hu] at hK ⊢; clear hu; have hu := bis (w := w3) (hd 4 rfl); rw [hu] at hK ⊢; clear hu; go_step; exact hK _ _ rfl (Below.refl _ _) rfl)⟩), stG (fun u w3 hC hd => ⟨rfl, fun Q K hK => by (have hu := bis (w := w3) (hd 5 rfl); rw [hu] at hK ⊢; clear hu; go_step; exact hK _ _ rfl (Below.refl _ _) rfl)⟩), stG (fun u w3 hC hd => ⟨by (have hu := bis (w := w3) (hd 6 rfl); rw [hu]; rfl), fun Q K hK => by (have e0 := (hC.cell (p := ⟨w.heap.size, 0, none⟩) qb).trans b0; go_step; exact hK _ _ rfl (Below.refl _ _) rfl)⟩), stG (fun u w3 hC hd => ⟨by (have hu := bis (w := w3) (hd 6 rfl); rw [hu]; rfl), fun Q K hK => by (have hu := bis (w := w3) (hd 7 rfl); rw [hu] at hK ⊢; clear hu; go_step; refine (sidesOf_any b _ _ _ (hsW.below hC) (Below.refl _ _) h4).mono ?_; rintro e w4 ⟨a0, n0, p0, a1, n1, q1, a2, n2, q2, a3, n3, q3, rfl, hall, hb4⟩; exact hK _ _ rfl hb4 ⟨_, _, _, _, rfl, hall.mono (fun _ _ h => h.below hb4)⟩)⟩), stG (fun u w3 hC hd => ⟨by (have hu := bis (w := w3) (hd 6 rfl); rw [hu]; rfl), fun Q K hK => by (have e0 := (hC.cell (p := ⟨w.heap.size + 1, 0, none⟩) qp).trans r0; have e1 := (hC.cell (p := ⟨w.heap.size + 1, 1, none⟩) qp).trans r1; have e2 := (hC.cell (p := ⟨w.heap.size + 1, 2, none⟩) qp).trans r2; have e3 := (hC.cell (p := ⟨w.heap.size + 1, 3, none⟩) qp).trans r3; go_step; exact hK _ _ rfl (Below.refl _ _) rfl)⟩), stG (fun u w3 hC hd => ⟨by (have hu := bis (w := w3) (hd 6 rfl); rw [hu]; rfl), fun Q K hK => by (obtain ⟨v0, v1, v2, v3, hu, hall⟩ := hd 8 rfl; rw [hu] at hK ⊢; clear hu; have hu := bis (w := w3) (hd 9 rfl); rw [hu] at hK ⊢; clear hu; go_step; refine (has_b hall HR.out).mono ?_; rintro e w4 ⟨rfl, hb4⟩; exact hK _ _ rfl hb4 rfl)⟩), stG (fun u w3 hC hd => ⟨rfl, fun Q K hK => by (have hu := bis (w := w3) (hd 6 rfl); rw [hu] at hK ⊢; clear hu; have hu := bis (w := w3) (hd 10 rfl); rw [hu] at hK ⊢; clear hu; go_step; exact hK _ _ rfl (Below.refl _ _) rfl)⟩), stG (fun u w3 hC hd => ⟨rfl, fun Q K hK => by (have hu := bis (w := w3) (hd 11 rfl); rw [hu] at hK ⊢; clear hu; go_step; exact hK _ _ rfl (Below.refl _ _) rfl)⟩), trivial⟩); intro u w9 hb_w9 hF; rw [bis (w := w9) (hF 0 (by decide))]; generalize u 1 = vx1 at *; rw [bis (w := w9) (hF 2 (by decide))]; rw [bis (w := w9) (hF 3 (by decide))]; generalize u 4 = vx4 at *; rw [bis (w := w9) (hF 5 (by decide))]; rw [bis (w := w9) (hF 6 (by decide))]; rw [bis (w := w9) (hF 7 (by decide))]; generalize u 8 = vx8 at *; rw [bis (w := w9) (hF 9 (by decide))]; generalize u 10 = vx10 at *; rw [bis (w := w9) (hF 11 (by decide))]; rw [bis (w := w9) (hF 12 (by decide))]; clear hF
      have hw9 := hal.trans (hb_w9.mono hal.size)
      go_wp2
      go_ret
      exact ⟨ret_bool (by simp [hr]), hw9⟩
theorem spStruct : Tryd.prog.underlying 70 = some (.struct (Tryd.prog.fieldsOf 70)) := by kernel_rfl
theorem spHeld : Tryd.prog.stoodInHeld 70 = false := by kernel_rfl
theorem spGuard : Tryd.prog.eqGuardType Tryd.prog.depth 70 = false := by kernel_rfl
theorem sp_equal (a1 a2 : Int) (w : World) : (Op.equalIn 10000 70 (.agg #[.int .i64 a1, .int .i64 a2]) (.agg #[.int .i64 a1, .int .i64 a2])).run Tryd.prog w = .ok true w := by
  have u3 := Tryd.underlying3
  have a3 := Tryd.isAgg3
  have z3 := Tryd.sizeOf3
  rw [show (10000 : Nat) = 9999 + 1 from rfl, run_equalIn_agg w 9999 _ _ _ spStruct spHeld]
  simp only [Program.fieldsOf, Tryd.underlying70]
  go_simp
set_option maxHeartbeats 2000000 in
theorem sameSpans_e {lo lo' : Nat} {xs : List Sp} {v u : Value} {w : World} (hs : Sps lo w v xs) (hu : Sps lo' w u xs) :
    Calls Tryd.prog 65 #[v, u] w fun e w' => e = .returned (.bool true) ∧ Below w.heap.size w w' := by
  obtain ⟨a, cap, rfl, hlc, hcm⟩ := hs.form
  obtain ⟨a', cap', rfl, hlc', hcm'⟩ := hu.form
  unfold maxLen at hcm hcm'
  generalize hn : xs.length = n at *
  have HN := Lib.hid hn
  have hp := spGuard
  clear hn
  go_enter Tryd.func65, Tryd.ntmps65
  go_wp2_with fail
  go_loopw [5] (fun i wr => ∃ k : Nat, k ≤ n ∧ i = .int .i64 k ∧ Below w.heap.size w wr) (fun i _ => n - (intOf i).toNat)
  case atStart => exact ⟨0, by omega, rfl, Below.refl _ _⟩
  case round =>
    obtain ⟨k, hk, rfl, hbr⟩ := hrel
    have hs2 := hs.below hbr
    have hu2 := hu.below hbr
    have hzr := hbr.size
    by_cases hlt : k < n
    · obtain ⟨b, o, f1, f2, rfl, hbl, hx, c0, c1⟩ := hs2.at (show k < xs.length by rw [HN.out]; exact hlt)
      obtain ⟨b', o', g1, g2, rfl, hbl', hy, d0, d1⟩ := hu2.at (show k < xs.length by rw [HN.out]; exact hlt)
      rw [hx] at hy
      obtain ⟨rfl, rfl⟩ := Sp.mk.inj (Option.some.inj hy)
      have i1 : (k : Int) < (n : Int) := by omega
      have i2 : (0 : Int) ≤ (k : Int) := by omega
      have hq := sp_equal f1 f2
      clear hx hy
      go_wp2_with fail
      go_quiet (fail)
      go_wp2
      go_roundw
      case rel => exact ⟨k + 1, by omega, by go_num, by (repeat' (first | with_reducible exact Below.refl _ _ | with_reducible assumption | with_reducible refine Below.setCell ?_ ?_ _ | with_reducible refine Below.alloc ?_ ?_ _ | with_reducible refine Below.drew ?_ | with_reducible refine belDrewN ?_ _ | with_reducible refine Below.trans ?_ (Below.mono (by assumption) ?_) | omega | (simp; omega) | (simp; done)))⟩
      case measure => simp [intOf]; omega
    · go_wp2
      go_ret
      exact ⟨rfl, hbr⟩
set_option maxHeartbeats 2000000 in
theorem sameBox_e {lo lo' : Nat} {xs : Bx} {v u : Value} {w : World} (hs : Rws lo w v xs) (hu : Rws lo' w u xs) :
    Calls Tryd.prog 25 #[.agg #[v], .agg #[u]] w fun e w' => e = .returned (.bool true) ∧ Below w.heap.size w w' := by
  obtain ⟨a, cap, rfl, hlc, hcm⟩ := hs.form
  obtain ⟨a', cap', rfl, hlc', hcm'⟩ := hu.form
  unfold maxLen at hcm hcm'
  generalize hn : xs.length = n at *
  have HN := Lib.hid hn
  clear hn
  have hal : Below w.heap.size w ((w.alloc (.cells #[.slice a n cap] 32)).alloc (.cells #[.slice a' n cap'] 32)) := by (repeat' (first | with_reducible exact Below.refl _ _ | with_reducible assumption | with_reducible refine Below.setCell ?_ ?_ _ | with_reducible refine Below.alloc ?_ ?_ _ | with_reducible refine Below.drew ?_ | with_reducible refine belDrewN ?_ _ | with_reducible refine Below.trans ?_ (Below.mono (by assumption) ?_) | omega | (simp; omega) | (simp; done)))
  obtain ⟨W, hW⟩ : ∃ W, (w.alloc (.cells #[.slice a n cap] 32)).alloc (.cells #[.slice a' n cap'] 32) = W := ⟨_, rfl⟩
  have q0 : W.cell? ⟨w.heap.size, 0, none⟩ = some (.slice a n cap) := by rw [← hW]; simp
  have q1 : W.cell? ⟨w.heap.size + 1, 0, none⟩ = some (.slice a' n cap') := by rw [← hW]; simp
  have qs : w.heap.size < W.heap.size := by rw [← hW]; simp; omega
  have qt : w.heap.size + 1 < W.heap.size := by rw [← hW]; simp
  rw [hW] at hal
  have hsW := hs.below hal
  have huW := hu.below hal
  clear hs hu
  go_enter Tryd.func25, Tryd.ntmps25
  go_wp2_with fail
  go_loopw [5] (fun i wr => ∃ k : Nat, k ≤ n ∧ i = .int .i64 k ∧ Below W.heap.size W wr) (fun i _ => n - (intOf i).toNat)
  case atStart => exact ⟨0, by omega, rfl, Below.refl _ _⟩
  case round =>
    obtain ⟨k, hk, rfl, hbr⟩ := hrel
    have hs2 := hsW.below hbr
    have hu2 := huW.below hbr
    have hzr := hbr.size
    have c0 := (hbr.cell (p := ⟨w.heap.size, 0, none⟩) qs).trans q0
    have c1 := (hbr.cell (p := ⟨w.heap.size + 1, 0, none⟩) qt).trans q1
    have rs : w.heap.size < wr.heap.size := by omega
    have rt : w.heap.size + 1 < wr.heap.size := by omega
    by_cases hlt : k < n
    · obtain ⟨x, hx⟩ : ∃ x, xs[k]? = some x := ⟨_, List.getElem?_eq_getElem (by rw [HN.out]; exact hlt)⟩
      obtain ⟨b, o, sv, rfl, hbl, d0, hsv⟩ := hs2.at hx
      obtain ⟨b', o', su, rfl, hbl', d1, hsu⟩ := hu2.at hx
      have HSV := Lib.hid hsv; have HSU := Lib.hid hsu
      clear hx hsv hsu
      have i1 : (k : Int) < (n : Int) := by omega
      have i2 : (0 : Int) ≤ (k : Int) := by omega
      go_wp2_with fail
      refine wp_region_over (by kernel_rfl) (by kernel_rfl) (fun ov => ?_); have ov0 := fun x => ov x (b) (by (try simp) <;> omega); have ov1 := fun x => ov x (b') (by (try simp) <;> omega); have ov2 := fun x => ov x (w.heap.size) (by (try simp) <;> omega); have ov3 := fun x => ov x (w.heap.size + 1) (by (try simp) <;> omega); clear ov; (iterate 9 (iterate 8 (try go_big_quiet_step (first | (go_at_call 65; with_reducible exact callsOver (sameSpans_e (HSV.out.below (over_below _ _)) (HSU.out.below (over_below _ _)))))))); refine wpQuiet_nil ?_; intro w9 hw9; have hb_w9 := below_over hw9; clear hw9 ov0 ov1 ov2 ov3
      have hb9 : Below W.heap.size W w9 := hbr.trans (hb_w9.mono hzr)
      clear hb_w9
      go_wp2
      go_roundw
      case rel => exact ⟨k + 1, by omega, by go_num, hb9⟩
      case measure => simp [intOf]; omega
    · go_wp2
      go_ret
      exact ⟨rfl, hal.trans (hbr.mono hal.size)⟩
/-- What the first box with the packet decides, or r. -/
def jw : List Ft → Bool → Pk → Bool
  | [], r, _ => r
  | f :: fs, r, p => if bhas f.box p then f.acc else jw fs r p
def jfl (fs : List Ft) (r : Bool) (p : Pk) : Bool := fvalid fs && p.ok && jw fs r p
theorem Box4.get {w : World} {b : Nat} {v0 v1 v2 v3 : Int} (h : Box4 w b v0 v1 v2 v3) {j : Nat} (hj : j < 4) : ∃ c : Int, w.cell? ⟨b, j, none⟩ = Option.some (.int .i64 c) := by
  rcases (by omega : j = 0 ∨ j = 1 ∨ j = 2 ∨ j = 3) with rfl | rfl | rfl | rfl
  · exact ⟨_, h.c0⟩
  · exact ⟨_, h.c1⟩
  · exact ⟨_, h.c2⟩
  · exact ⟨_, h.c3⟩
theorem Box4.put {w : World} {b : Nat} {v0 v1 v2 v3 : Int} (h : Box4 w b v0 v1 v2 v3) {j : Nat} (hj : j < 4) (v : Int) : ∃ u0 u1 u2 u3, Box4 (w.setCell ⟨b, j, none⟩ (.int .i64 v)) b u0 u1 u2 u3 := by
  rcases (by omega : j = 0 ∨ j = 1 ∨ j = 2 ∨ j = 3) with rfl | rfl | rfl | rfl
  · exact ⟨_, _, _, _, (h.set v).1⟩
  · exact ⟨_, _, _, _, (h.set v).2.1⟩
  · exact ⟨_, _, _, _, (h.set v).2.2.1⟩
  · exact ⟨_, _, _, _, (h.set v).2.2.2⟩
theorem Box4.far {w : World} {b : Nat} {v0 v1 v2 v3 : Int} (h : Box4 w b v0 v1 v2 v3) {p : Addr} (hp : p.block ≠ b) (u : Value) : Box4 (w.setCell p u) b v0 v1 v2 v3 :=
  h.mv (R := p.block) (B := w.heap.size) ⟨rfl, rfl, rfl, by simp, fun k _ hne => Below.heap_setCell _ _ _ _ hne⟩ h.lt (fun e => hp e.symm)
/-- The numbers of the probe in the making: some four. -/
def PbSt (w wr : World) : Prop := (∃ v0 v1 v2 v3, Box4 wr (w.heap.size + 1 + 1) v0 v1 v2 v3) ∧ Box4 wr w.heap.size 0 0 0 0 ∧ Below w.heap.size w wr
theorem PbSt.al {w wr : World} (h : PbSt w wr) (o : Obj) : PbSt w (wr.alloc o) :=
  let ⟨⟨v0, v1, v2, v3, h1⟩, h2, h3⟩ := h
  ⟨⟨v0, v1, v2, v3, h1.old o⟩, h2.old o, h3.alloc h3.size o⟩
theorem PbSt.put {w wr : World} (h : PbSt w wr) {j : Nat} (hj : j < 4) (v : Int) : PbSt w (wr.setCell ⟨w.heap.size + 1 + 1, j, none⟩ (.int .i64 v)) :=
  let ⟨⟨v0, v1, v2, v3, h1⟩, h2, h3⟩ := h
  ⟨h1.put hj v, h2.far (by simp only; omega) _, h3.setCell (by simp only; omega) _⟩
theorem PbSt.get {w wr : World} (h : PbSt w wr) {j : Nat} (hj : j < 4) : (∃ c : Int, wr.cell? ⟨w.heap.size + 1 + 1, j, none⟩ = some (.int .i64 c)) ∧ wr.frozen? ⟨w.heap.size + 1 + 1, j, none⟩ = false ∧ w.heap.size + 1 + 1 < wr.heap.size :=
  let ⟨⟨_, _, _, _, h1⟩, _, _⟩ := h
  ⟨h1.get hj, h1.frz j, h1.lt⟩
set_option maxHeartbeats 4000000 in
set_option maxRecDepth 100000 in
theorem probe_any {lo : Nat} (bs : List Bx) (v : Value) (sd : Nat) (w : World) (hs : Bxs lo w v bs) (hsd : sd ≤ 1048576) (hb : bs.length ≤ 100) (hb40 : ∀ (k : Nat) b, bs[k]? = some b → b.length ≤ 100 ∧ ∀ (j : Nat) xs, b[j]? = some xs → xs.length ≤ 1000) :
    Calls Tryd.prog 19 #[v, .int .i64 sd] w fun e w' => ∃ x : Pk, e = .returned (Pk.v x) ∧ Below w.heap.size w w' := by
  obtain ⟨a, cap, rfl, hlc, hcm⟩ := hs.form
  unfold maxLen at hcm
  generalize hnn : bs.length = n at *
  have HN := Lib.hid hnn
  clear hnn
  obtain ⟨x0, hx0⟩ : ∃ x : Int, (sd : Int) % 65536 = x := ⟨_, rfl⟩
  go_enter Tryd.func19, Tryd.ntmps19
  go_wp2_with fail
  have h0 := Box4.new w 0 0 0 0 39
  have hS : PbSt w (((w.alloc (.cells #[.int .i64 0, .int .i64 0, .int .i64 0, .int .i64 0] 39)).alloc (.cells #[.int .i64 x0, .int .i64 ((sd : Int) / 3 % 65536), .int .i64 ((sd : Int) % 256), .int .i64 ((sd : Int) % 8)] 39)).alloc (.cells #[.int .i64 x0, .int .i64 ((sd : Int) / 3 % 65536), .int .i64 ((sd : Int) % 256), .int .i64 ((sd : Int) % 8)] 3)) := by
    refine ⟨⟨x0, (sd : Int) / 3 % 65536, (sd : Int) % 256, (sd : Int) % 8, ?_⟩, (h0.old _).old _, by (repeat' (first | with_reducible exact Below.refl _ _ | with_reducible assumption | with_reducible refine Below.setCell ?_ ?_ _ | with_reducible refine Below.alloc ?_ ?_ _ | with_reducible refine Below.drew ?_ | with_reducible refine belDrewN ?_ _ | with_reducible refine Below.trans ?_ (Below.mono (by assumption) ?_) | omega | (simp; omega) | (simp; done)))⟩
    have := Box4.new ((w.alloc (.cells #[.int .i64 0, .int .i64 0, .int .i64 0, .int .i64 0] 39)).alloc (.cells #[.int .i64 x0, .int .i64 ((sd : Int) / 3 % 65536), .int .i64 ((sd : Int) % 256), .int .i64 ((sd : Int) % 8)] 39)) x0 ((sd : Int) / 3 % 65536) ((sd : Int) % 256) ((sd : Int) % 8) 3
    simpa using this
  go_loopw [7] (fun i wr => ∃ k : Nat, k ≤ n ∧ i = .int .i64 k ∧ PbSt w wr) (fun i _ => n - (intOf i).toNat)
  case atStart => exact ⟨0, by omega, rfl, hS⟩
  case round =>
    clear hS h0
    obtain ⟨k, hk, rfl, hS⟩ := hrel
    by_cases hlt : k < n
    · have i1 : (k : Int) < (n : Int) := by omega
      have i2 : (0 : Int) ≤ (k : Int) := by omega
      go_wp2_with fail
      go_loopw [8] (fun i wi => ∃ j : Nat, j ≤ 4 ∧ i = .int .i64 j ∧ PbSt w wi) (fun i _ => 4 - (intOf i).toNat)
      case atStart => exact ⟨0, by omega, rfl, hS⟩
      case round =>
        clear hS
        obtain ⟨j, hj, rfl, hS⟩ := hrel
        by_cases hj4 : j < 4
        · obtain ⟨bx, hbx⟩ : ∃ bx, bs[k]? = some bx := ⟨_, List.getElem?_eq_getElem (by rw [HN.out]; exact hlt)⟩
          obtain ⟨hl1, hl2⟩ := hb40 k bx hbx
          obtain ⟨b', o, sv, rfl, hbl, c0, hsv⟩ := (hs.below hS.2.2).at hbx
          obtain ⟨sa, sc, rfl, hsl, hsm⟩ := hsv.form
          unfold maxLen at hsm
          generalize hmm : bx.length = m at *
          have HM := Lib.hid hmm
          have j1 : (j : Int) < 4 := by omega
          have j2 : (0 : Int) ≤ (j : Int) := by omega
          clear hmm hbx
          by_cases hjm : j < m
          · have j3 : (j : Int) < (m : Int) := by omega
            obtain ⟨xs, hx⟩ : ∃ xs, bx[j]? = some xs := ⟨_, List.getElem?_eq_getElem (by rw [HM.out]; exact hjm)⟩
            have hl3 := hl2 j xs hx
            obtain ⟨b2, o2, sv2, rfl, hbl2, d0, hsv2⟩ := hsv.at hx
            obtain ⟨ta, tc, rfl, htl, htm⟩ := hsv2.form
            unfold maxLen at htm
            generalize hll : xs.length = L at *
            have HL := Lib.hid hll
            clear hll hx hsv
            by_cases hL0 : L = 0
            · subst hL0
              go_wp2
              go_roundw
              case rel => exact ⟨j + 1, by omega, by go_num, hS⟩
              case measure => simp [intOf]; omega
            · have hL0i : ((L : Int) == 0) = false := by simpa using hL0
              by_cases h3 : ((sd : Int) + (k : Int) + (j : Int)) % 3 = 0
              · go_wp2
                go_roundw
                case rel => exact ⟨j + 1, by omega, by go_num, hS⟩
                case measure => simp [intOf]; omega
              · have h3b : (((sd : Int) + (k : Int) + (j : Int)) % 3 == 0) = false := by simpa using h3
                obtain ⟨mm, hmm⟩ := Int.eq_ofNat_of_zero_le (Int.emod_nonneg ((sd : Int) + (j : Int)) (by omega : (L : Int) ≠ 0))
                have hml := Int.emod_lt_of_pos ((sd : Int) + (j : Int)) (by omega : (0 : Int) < (L : Int))
                rw [hmm] at hml
                obtain ⟨sb, so, f1, f2, rfl, hsbl, -, s0, s1⟩ := hsv2.at (k := mm) (by rw [HL.out]; omega)
                clear hsv2
                have hS2 := Lib.hid (hS.al (.cells #[.int .i64 f1, .int .i64 f2] 70))
                obtain ⟨⟨c, hc⟩, hcf, hVl⟩ := hS.get hj4
                have hT := Lib.hid hS
                clear hS hS2
                by_cases h2 : ((sd : Int) + (k : Int)) % 2 = 0
                · have h2b : (((sd : Int) + (k : Int)) % 2 == 0) = true := by simpa using h2
                  go_wp2
                  go_roundw
                  case rel => exact ⟨j + 1, by omega, by go_num, ((hT.out.put hj4 f1).put hj4 f2).al _⟩
                  case measure => simp [intOf]; omega
                · have h2b : (((sd : Int) + (k : Int)) % 2 == 0) = false := by simpa using h2
                  go_wp2
                  go_roundw
                  case rel => exact ⟨j + 1, by omega, by go_num, (hT.out.put hj4 f1).al _⟩
                  case measure => simp [intOf]; omega
          · have j3 : ¬ (j : Int) < (m : Int) := by omega
            go_wp2
            go_roundw
            case rel => exact ⟨k + 1, by omega, by go_num, hS⟩
            case measure => simp [intOf]; omega
        · have j1 : ¬ (j : Int) < 4 := by omega
          go_wp2
          go_roundw
          case rel => exact ⟨k + 1, by omega, by go_num, hS⟩
          case measure => simp [intOf]; omega
    · have hkn : k = n := by omega
      obtain ⟨⟨u0, u1, u2, u3, V⟩, A, hB⟩ := hS
      obtain ⟨l0, c0, c1, c2, c3, cf⟩ := id V
      obtain ⟨a0, d0, d1, d2, d3, df⟩ := id A
      go_wp2_with fail
      clear V A
      go_region
      all_goals
        go_wp2_with fail
        exact bodyPost_ret (v := .agg #[.int .i64 u0, .int .i64 u1, .int .i64 u2, .int .i64 u3]) (by simp [results, Tryd.results19, go_sem, d0, d1, d2, d3]) rfl ⟨⟨u0, u1, u2, u3⟩, rfl, by (repeat' (first | with_reducible exact Below.refl _ _ | with_reducible assumption | with_reducible refine Below.setCell ?_ ?_ _ | with_reducible refine Below.alloc ?_ ?_ _ | with_reducible refine Below.drew ?_ | with_reducible refine belDrewN ?_ _ | with_reducible refine Below.trans ?_ (Below.mono (by assumption) ?_) | omega | (simp; omega) | (simp; done)))⟩
theorem bxs2 {lo : Nat} {w : World} {sv tv : Value} {b1 b2 : Bx} (h1 : Rws lo w sv b1) (h2 : Rws lo w tv b2) (ty : TypeId) : Bxs 0 (w.alloc (.cells #[sv, tv] ty)) (.slice (some ⟨w.heap.size, 0, none⟩) 2 2) [b1, b2] := by
  have hb : Below w.heap.size w (w.alloc (.cells #[sv, tv] ty)) := (Below.refl _ _).alloc (Nat.le_refl _) _
  refine ⟨[sv, tv], ⟨_, 2, rfl, by simp, by simp [maxLen], fun k x hk => ⟨w.heap.size, 0, rfl, Nat.zero_le _, by simp, fun j c hj => ?_⟩⟩, (All2.nil.snoc ((h1.below hb).mono (Nat.zero_le _))).snoc ((h2.below hb).mono (Nat.zero_le _))⟩
  match k, hk, j, hj with
  | 0, hk, 0, hj => cases hk; cases hj; simp
  | 1, hk, 0, hj => cases hk; cases hj; simp
  | k + 2, hk, _, _ => simp at hk
  | _, _, j + 1, hj => simp at hj
/-- A fresh packet's block. -/
def FPk (base : Nat) : World → Value → Prop := fun w v => ∃ B, v = .pointer (some ⟨B, 0, none⟩) ∧ base ≤ B ∧ Box4 w B 0 0 0 0
def FPr : World → Value → Prop := fun _ v => ∃ a b c d : Int, v = .agg #[.int .i64 a, .int .i64 b, .int .i64 c, .int .i64 d]
/-- Where the drawn packet lies. -/
def GPk (i : Nat) : Nat → World → Value → Prop := fun j w v => j = i → ∃ (B : Nat) (a b c d : Int), v = .pointer (some ⟨B, 0, none⟩) ∧ Box4 w B a b c d
theorem Box4.all {w : World} {B : Nat} {u0 u1 u2 u3 : Int} (h : Box4 w B u0 u1 u2 u3) (a b c d : Int) : Box4 ((((w.setCell ⟨B, 0, none⟩ (.int .i64 a)).setCell ⟨B, 1, none⟩ (.int .i64 b)).setCell ⟨B, 2, none⟩ (.int .i64 c)).setCell ⟨B, 3, none⟩ (.int .i64 d)) B a b c d :=
  ((((h.set a).1.set b).2.1.set c).2.2.1.set d).2.2.2
set_option maxHeartbeats 400000 in
theorem have_one (b : Nat) (w : World) (hb : b < w.heap.size) (h0 : w.cell? ⟨b, 0, none⟩ = some (.int .i64 2)) (h1 : w.cell? ⟨b, 1, none⟩ = some (.int .i64 4)) :
    Calls Tryd.prog 40 #[.slice (some ⟨b, 0, none⟩) 1 1, .int .i64 3] w fun e w' => e = .returned (.bool true) ∧ Below w.heap.size w w' := by
  go_enter Tryd.func40, Tryd.ntmps40
  go_wp2_with fail
  go_loopw [9] (fun i wr => i = .int .i64 0 ∧ Below w.heap.size w wr) (fun _ _ => 0)
  case atStart => exact ⟨rfl, by (repeat' (first | with_reducible exact Below.refl _ _ | with_reducible assumption | with_reducible refine Below.setCell ?_ ?_ _ | with_reducible refine Below.alloc ?_ ?_ _ | with_reducible refine Below.drew ?_ | with_reducible refine belDrewN ?_ _ | with_reducible refine Below.trans ?_ (Below.mono (by assumption) ?_) | omega | (simp; omega) | (simp; done)))⟩
  case round =>
    obtain ⟨rfl, hb2⟩ := hrel
    have c0 := (hb2.cell (p := ⟨b, 0, none⟩) hb).trans h0
    have c1 := (hb2.cell (p := ⟨b, 1, none⟩) hb).trans h1
    have hz2 := hb2.size
    go_wp2
    go_ret
    exact ⟨rfl, by (repeat' (first | with_reducible exact Below.refl _ _ | with_reducible assumption | with_reducible refine Below.setCell ?_ ?_ _ | with_reducible refine Below.alloc ?_ ?_ _ | with_reducible refine Below.drew ?_ | with_reducible refine belDrewN ?_ _ | with_reducible refine Below.trans ?_ (Below.mono (by assumption) ?_) | omega | (simp; omega) | (simp; done)))⟩
set_option maxHeartbeats 400000 in
theorem alive_any (w : World) : Calls Tryd.prog 12 #[] w fun e w' => e = .returned (.bool true) ∧ Below w.heap.size w w' := by
  go_enter Tryd.func12, Tryd.ntmps12
  go_wp2_with fail
  refine (have_one _ _ (by simp) (by simp) (by simp)).mono ?_
  rintro e w1 ⟨rfl, hb1⟩
  go_wp2
  go_ret
  exact ⟨rfl, by (repeat' (first | with_reducible exact Below.refl _ _ | with_reducible assumption | with_reducible refine Below.setCell ?_ ?_ _ | with_reducible refine Below.alloc ?_ ?_ _ | with_reducible refine Below.drew ?_ | with_reducible refine belDrewN ?_ _ | with_reducible refine Below.trans ?_ (Below.mono (by assumption) ?_) | omega | (simp; omega) | (simp; done)))⟩
end Go.Proofs.YtajcogpfmpehkaaDoor
