/- Validity of boxes and rules; the walks of the program and the reference. -/
import Derived.Test.YtajcogpfmpehkaaDoorFmA
import Derived.Laws.Rows
import Derived.Test.YtajcogpfmpehkaaDoorFmC
import Derived.Deep.RegionLaw
import Derived.Deep.AppendLies
namespace Go.Proofs.YtajcogpfmpehkaaDoor
open Go.RowKit
def bhas (b : Bx) (p : Pk) : Bool := (List.range 4).all fun n => shas (b.getD n []) (p.fld n)
theorem bhas_iff {b : Bx} {p : Pk} : bhas b p = true ↔ ∀ n, n < 4 → shas (b.getD n []) (p.fld n) = true := by
  unfold bhas
  rw [List.all_eq_true]
  exact ⟨fun h n hn => h n (List.mem_range.2 hn), fun h n hn => h n (List.mem_range.1 hn)⟩
theorem bhas_no {b : Bx} {p : Pk} {n : Nat} {xs : List Sp} (hn : n < 4) (hx : b[n]? = some xs) (h : shas xs (p.fld n) = false) : bhas b p = false := by
  rw [← Bool.not_eq_true, bhas_iff]
  intro g
  have := g n hn
  rw [List.getD_eq_getElem?_getD, hx] at this
  simp only [Option.getD_some] at this
  rw [h] at this; cases this
def BH (b : Bx) (p : Pk) (k : Nat) : Prop := ∀ n, n < k → shas (b.getD n []) (p.fld n) = true
theorem BH.step {b : Bx} {p : Pk} {n : Nat} {xs : List Sp} (h : BH b p n) (hx : b[n]? = some xs) (hs : shas xs (p.fld n) = true) : BH b p (n + 1) := by
  intro i hi
  by_cases e : i = n
  · subst e
    rw [List.getD_eq_getElem?_getD, hx]
    exact hs
  · exact h i (by omega)
theorem bhas_yes {b : Bx} {p : Pk} (h : BH b p 4) : bhas b p = true := bhas_iff.2 h
theorem bvalid_four {b : Bx} (h : bvalid b = true) : b.length = 4 ∧ BOk b 4 := by
  unfold bvalid at h
  exact of_decide_eq_true h
/-- The number of the first rule that has the packet. -/
def fwith : List Ft → Pk → Nat → Int
  | [], _, _ => -1
  | f :: fs, p, k => if bhas f.box p then (k : Int) else fwith fs p (k + 1)
def dby (fs : List Ft) (p : Pk) : Int := if fvalid fs && p.ok then fwith fs p 0 else -1
set_option maxHeartbeats 2000000 in
theorem has_any {lo : Nat} (b : Bx) (v0 v1 v2 v3 : Value) (p1 p2 p3 p4 : Int) (w : World) (hs : All2 (Sps lo w) [v0, v1, v2, v3] b) :
    Calls Tryd.prog 68 #[.agg #[v0, v1, v2, v3], .agg #[.int .i64 p1, .int .i64 p2, .int .i64 p3, .int .i64 p4]] w fun e w' => e = .returned (.bool (bhas b ⟨p1, p2, p3, p4⟩)) ∧ Below w.heap.size w w' := by
  have hal : Below w.heap.size w ((w.alloc (.cells #[v0, v1, v2, v3] 89)).alloc (.cells #[.int .i64 p1, .int .i64 p2, .int .i64 p3, .int .i64 p4] 39)) := by (repeat' (first | with_reducible exact Below.refl _ _ | with_reducible assumption | with_reducible refine Below.setCell ?_ ?_ _ | with_reducible refine Below.alloc ?_ ?_ _ | with_reducible refine Below.drew ?_ | with_reducible refine belDrewN ?_ _ | with_reducible refine Below.trans ?_ (Below.mono (by assumption) ?_) | omega | (simp; omega) | (simp; done)))
  obtain ⟨W, hW⟩ : ∃ W, (w.alloc (.cells #[v0, v1, v2, v3] 89)).alloc (.cells #[.int .i64 p1, .int .i64 p2, .int .i64 p3, .int .i64 p4] 39) = W := ⟨_, rfl⟩
  have HQ := Lib.hid (show ∀ (k : Nat) v, [v0, v1, v2, v3][k]? = some v → W.cell? ⟨w.heap.size, k, none⟩ = some v from fun k v hk => by
    rw [← hW]
    match k, hk with
    | 0, hk => cases hk; simp
    | 1, hk => cases hk; simp
    | 2, hk => cases hk; simp
    | 3, hk => cases hk; simp
    | k + 4, hk => simp at hk)
  have r0 : W.cell? ⟨w.heap.size + 1, 0, none⟩ = some (.int .i64 p1) := by rw [← hW]; simp
  have r1 : W.cell? ⟨w.heap.size + 1, 1, none⟩ = some (.int .i64 p2) := by rw [← hW]; simp
  have r2 : W.cell? ⟨w.heap.size + 1, 2, none⟩ = some (.int .i64 p3) := by rw [← hW]; simp
  have r3 : W.cell? ⟨w.heap.size + 1, 3, none⟩ = some (.int .i64 p4) := by rw [← hW]; simp
  have qs : w.heap.size < W.heap.size := by rw [← hW]; simp; omega
  rw [hW] at hal
  have h4 : b.length = 4 := hs.1.symm
  have H4 := Lib.hid h4
  clear h4
  have hsW : All2 (Sps lo W) [v0, v1, v2, v3] b := hs.mono (fun _ _ h => h.below hal)
  go_enter Tryd.func68, Tryd.ntmps68
  go_wp2_with fail
  refine (fields_any p1 p2 p3 p4 _).mono ?_
  rintro e w1 ⟨rfl, hb1⟩
  have hW1 : Below W.heap.size W w1 := hb1
  have HS1 := Lib.hid (hsW.mono (fun _ _ h => h.below hb1))
  have hz1 := hb1.size
  clear hb1 hsW hs hW
  go_wp2_with fail
  go_loopw [5, 6, 9] (fun _ _ i wr => ∃ k : Nat, k ≤ 4 ∧ i = .int .i64 k ∧ BH b ⟨p1, p2, p3, p4⟩ k ∧ Below w1.heap.size w1 wr) (fun _ _ i _ => 4 - (intOf i).toNat)
  case atStart => exact ⟨0, by omega, rfl, fun i hi => by omega, Below.refl _ _⟩
  case round =>
    obtain ⟨k, hk4, rfl, hG, hbr⟩ := hrel
    have HG := Lib.hid hG
    clear hG
    have hzr := hbr.size
    have qsr : w.heap.size < wr.heap.size := Nat.lt_of_lt_of_le (Nat.lt_of_lt_of_le qs hz1) hzr
    have hwr : Below w.heap.size w wr := (hal.trans (hW1.mono hal.size)).trans (hbr.mono (Nat.le_trans hal.size hz1))
    by_cases hlt : k < 4
    · have i1 : (k : Int) < 4 := by omega
      have i2 : (0 : Int) ≤ (k : Int) := by omega
      obtain ⟨xs, hx⟩ : ∃ xs, b[k]? = some xs := ⟨_, List.getElem?_eq_getElem (by rw [H4.out]; exact hlt)⟩
      obtain ⟨sv, hsv, hss⟩ := (HS1.out.mono (fun _ _ h => h.below hbr)).left hx
      have d0 : wr.cell? ⟨w.heap.size, k, none⟩ = some sv := (hbr.cell (p := ⟨w.heap.size, k, none⟩) (Nat.lt_of_lt_of_le qs hz1)).trans ((hW1.cell (p := ⟨w.heap.size, k, none⟩) qs).trans (HQ.out k sv hsv))
      have HX := Lib.hid hx
      have HSV := Lib.hid hss
      clear hx hss hsv
      obtain ⟨f, hf⟩ : ∃ f, Pk.fld ⟨p1, p2, p3, p4⟩ k = f := ⟨_, rfl⟩
      have HF := Lib.hid hf
      have hxi : ∀ w : World, (Instr.index 81 (.agg #[.int .i64 p1, .int .i64 p2, .int .i64 p3, .int .i64 p4]) (.int .i64 (k : Int))).run Tryd.prog w = .ok (.int .i64 f) w := by
        subst hf
        intro w
        rcases (by omega : k = 0 ∨ k = 1 ∨ k = 2 ∨ k = 3) with rfl | rfl | rfl | rfl <;> kernel_rfl
      clear hf
      obtain ⟨r, hv2⟩ : ∃ r, shas xs f = r := ⟨_, rfl⟩
      have HV := Lib.hid hv2
      clear hv2
      go_wp2_with fail
      refine (implSH_b HSV.out HV.out).mono ?_
      rintro e w9 ⟨rfl, hb9⟩
      cases r
      · have HE := Lib.hid (bhas_no hlt HX.out (by rw [HF.out]; exact HV.out))
        have hw9 : Below w.heap.size w w9 := hwr.trans (hb9.mono hwr.size)
        clear hb9
        go_wp2
        go_ret
        exact ⟨ret_bool HE.out.symm, hw9⟩
      · have HE := Lib.hid (HG.out.step HX.out (by rw [HF.out]; exact HV.out))
        have hw9 : Below w1.heap.size w1 w9 := hbr.trans (hb9.mono hzr)
        clear hb9
        go_wp2
        go_roundw
        case rel => exact ⟨k + 1, by omega, by go_num, HE.out, hw9⟩
        case measure => simp [intOf]; omega
    · have hkn : k = 4 := by omega
      have HE := Lib.hid (bhas_yes (by have := HG.out; rwa [hkn] at this))
      subst hkn
      go_wp2
      go_ret
      exact ⟨ret_bool HE.out.symm, hwr⟩
theorem has_b {lo : Nat} {b : Bx} {v0 v1 v2 v3 : Value} {p1 p2 p3 p4 : Int} {w : World} {r : Bool} (hs : All2 (Sps lo w) [v0, v1, v2, v3] b) (h : bhas b ⟨p1, p2, p3, p4⟩ = r) :
    Calls Tryd.prog 68 #[.agg #[v0, v1, v2, v3], .agg #[.int .i64 p1, .int .i64 p2, .int .i64 p3, .int .i64 p4]] w fun e w' => e = .returned (.bool r) ∧ Below w.heap.size w w' := by
  subst h
  exact has_any b v0 v1 v2 v3 p1 p2 p3 p4 w hs
set_option maxHeartbeats 2000000 in
set_option maxRecDepth 100000 in
theorem sidesOf_any {lo : Nat} (bx : Bx) (v : Value) (w0 w : World) (hs : Rws lo w0 v bx) (hb0 : Below w0.heap.size w0 w) (h4 : bx.length = 4) :
    Calls Tryd.prog 57 #[.agg #[v]] w fun e w' => ∃ a0 n0 p0 a1 n1 p1 a2 n2 p2 a3 n3 p3, e = .returned (.agg #[.slice a0 n0 p0, .slice a1 n1 p1, .slice a2 n2 p2, .slice a3 n3 p3]) ∧ All2 (Sps lo w0) [.slice a0 n0 p0, .slice a1 n1 p1, .slice a2 n2 p2, .slice a3 n3 p3] bx ∧ Below w.heap.size w w' := by
  obtain ⟨a, cap, rfl, hlc, hcm⟩ := hs.form
  rw [h4] at hs hlc ⊢
  match bx, h4 with
  | [x0, x1, x2, x3], _ =>
    obtain ⟨b, o, v0, rfl, hbl, c0, s0⟩ := hs.at (k := 0) (xs := x0) rfl
    obtain ⟨b', o', v1, he, -, c1, s1⟩ := hs.at (k := 1) (xs := x1) rfl
    obtain ⟨rfl, rfl, -⟩ := Addr.mk.inj (Option.some.inj he)
    obtain ⟨b', o', v2, he, -, c2, s2⟩ := hs.at (k := 2) (xs := x2) rfl
    obtain ⟨rfl, rfl, -⟩ := Addr.mk.inj (Option.some.inj he)
    obtain ⟨b', o', v3, he, -, c3, s3⟩ := hs.at (k := 3) (xs := x3) rfl
    obtain ⟨rfl, rfl, -⟩ := Addr.mk.inj (Option.some.inj he)
    have hall : All2 (Sps lo w0) [v0, v1, v2, v3] [x0, x1, x2, x3] := ((All2.nil.snoc s0).snoc s1).snoc s2 |>.snoc s3
    obtain ⟨a0, n0, p0, rfl, -⟩ : ∃ a n c, v0 = .slice a n c ∧ True := let ⟨a, c, h, _⟩ := s0.form; ⟨a, _, c, h, trivial⟩
    obtain ⟨a1, n1, p1, rfl, -⟩ : ∃ a n c, v1 = .slice a n c ∧ True := let ⟨a, c, h, _⟩ := s1.form; ⟨a, _, c, h, trivial⟩
    obtain ⟨a2, n2, p2, rfl, -⟩ : ∃ a n c, v2 = .slice a n c ∧ True := let ⟨a, c, h, _⟩ := s2.form; ⟨a, _, c, h, trivial⟩
    obtain ⟨a3, n3, p3, rfl, -⟩ : ∃ a n c, v3 = .slice a n c ∧ True := let ⟨a, c, h, _⟩ := s3.form; ⟨a, _, c, h, trivial⟩
    have hx : ∀ w : World, (Instr.arrayAt 89 (.slice (some ⟨b, o, none⟩) 4 cap)).run Tryd.prog w = .ok (.pointer (some ⟨b, o, none⟩)) w := fun w => by kernel_rfl
    have HA := Lib.hid hall
    rw [Nat.add_zero] at c0
    replace c0 := (hb0.cell (p := ⟨b, o, none⟩) hbl).trans c0
    replace c1 := (hb0.cell (p := ⟨b, o + 1, none⟩) hbl).trans c1
    replace c2 := (hb0.cell (p := ⟨b, o + 2, none⟩) hbl).trans c2
    replace c3 := (hb0.cell (p := ⟨b, o + 3, none⟩) hbl).trans c3
    replace hbl := Nat.lt_of_lt_of_le hbl hb0.size
    clear hb0
    clear hall hs s0 s1 s2 s3
    go_enter Tryd.func57, Tryd.ntmps57
    go_wp2_with fail
    refine bodyPost_ret (v := .agg #[.slice a0 n0 p0, .slice a1 n1 p1, .slice a2 n2 p2, .slice a3 n3 p3]) (results_cell_row rfl _ _ (w.heap.size + 1) 89 #[.slice a0 n0 p0, .slice a1 n1 p1, .slice a2 n2 p2, .slice a3 n3 p3] _ _ rfl (heap_alloc2_new w _ _) Tryd.underlying89 rfl (by kernel_rfl)) rfl ?_
    exact ⟨_, _, _, _, _, _, _, _, _, _, _, _, rfl, HA.out, by (repeat' (first | with_reducible exact Below.refl _ _ | with_reducible assumption | with_reducible refine Below.setCell ?_ ?_ _ | with_reducible refine Below.alloc ?_ ?_ _ | with_reducible refine Below.drew ?_ | with_reducible refine belDrewN ?_ _ | with_reducible refine Below.trans ?_ (Below.mono (by assumption) ?_) | omega | (simp; omega) | (simp; done)))⟩
end Go.Proofs.YtajcogpfmpehkaaDoor
