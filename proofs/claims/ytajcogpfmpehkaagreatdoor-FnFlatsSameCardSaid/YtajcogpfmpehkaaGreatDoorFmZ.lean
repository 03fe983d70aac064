/- Validity of boxes and rules; the walks of the program and the reference. -/
import Derived.Test.YtajcogpfmpehkaaGreatDoorFmA
import Derived.Laws.Rows
import Derived.Test.YtajcogpfmpehkaaGreatDoorFmC
import Derived.Deep.RegionLaw
import Derived.Deep.AppendLies
namespace Go.Proofs.YtajcogpfmpehkaaGreatDoor
open Go.RowKit
def bhas (b : Bx) (p : Pk) : Bool := (List.range 4).all fun n => shas (b.getD n []) (p.fld n)
theorem bhas_iff {b : Bx} {p : Pk} : bhas b p = true ↔ ∀ n, n < 4 → shas (b.getD n []) (p.fld n) = true := by
  unfold bhas
  rw [List.all_eq_true]
  exact ⟨fun h n hn => h n (List.mem_range.2 hn), fun h n hn => h n (List.mem_range.1 hn)⟩
def BH (b : Bx) (p : Pk) (k : Nat) : Prop := ∀ n, n < k → shas (b.getD n []) (p.fld n) = true
theorem BH.step {b : Bx} {p : Pk} {n : Nat} {xs : List Sp} (h : BH b p n) (hx : b[n]? = some xs) (hs : shas xs (p.fld n) = true) : BH b p (n + 1) := by
  intro i hi
  by_cases e : i = n
  · subst e
    rw [List.getD_eq_getElem?_getD, hx]
    exact hs
  · exact h i (by omega)
theorem bvalid_four {b : Bx} (h : bvalid b = true) : b.length = 4 ∧ BOk b 4 := by
  unfold bvalid at h
  exact of_decide_eq_true h
/-- The number of the first rule that has the packet. -/
def fwith : List Ft → Pk → Nat → Int
  | [], _, _ => -1
  | f :: fs, p, k => if bhas f.box p then (k : Int) else fwith fs p (k + 1)
def dby (fs : List Ft) (p : Pk) : Int := if fvalid fs && p.ok then fwith fs p 0 else -1
theorem fvalid_at {fs : List Ft} (h : fvalid fs = true) {k : Nat} {f : Ft} (hx : fs[k]? = some f) : bvalid f.box = true := by
  unfold fvalid at h
  rw [Bool.and_eq_true, List.all_eq_true] at h
  exact h.2 f (List.mem_of_getElem? hx)
set_option maxHeartbeats 2000000 in
set_option maxRecDepth 100000 in
theorem sidesOf_any {lo : Nat} (bx : Bx) (v : Value) (w0 w : World) (hs : Rws lo w0 v bx) (hb0 : Below w0.heap.size w0 w) (h4 : bx.length = 4) :
    Calls Tryz.prog 39 #[.agg #[v]] w fun e w' => ∃ a0 n0 p0 a1 n1 p1 a2 n2 p2 a3 n3 p3, e = .returned (.agg #[.slice a0 n0 p0, .slice a1 n1 p1, .slice a2 n2 p2, .slice a3 n3 p3]) ∧ All2 (Sps lo w0) [.slice a0 n0 p0, .slice a1 n1 p1, .slice a2 n2 p2, .slice a3 n3 p3] bx ∧ Below w.heap.size w w' := by
  obtain ⟨a, cap, rfl, hlc, hcm⟩ := hs.form
  rw [h4] at hs hlc ⊢
  match bx, h4 with
  | [x0, x1, x2, x3], _ =>
    obtain ⟨b, o, v0, rfl, hbl, c0, s0⟩ := hs.at (k := 0) (xs := x0) rfl
    obtain ⟨b', o', v1, he, -, c1, s1⟩ := hs.at (k := 1) (xs := x1) rfl
    obtain ⟨rfl, rfl, -⟩ := Addr.mk.inj (Option.some.inj he)
    obtain ⟨b', o', v2, he, -, c2, s2⟩ := hs.at (k := 2) (xs := x2) rfl
    obtain ⟨rfl, rfl, -⟩ := Addr.mk.inj (Option.some.inj he)
    obtain ⟨b', o', v3, he, -, c3, s3⟩ := hs.at (k := 3) (xs := x3) rfl
    obtain ⟨rfl, rfl, -⟩ := Addr.mk.inj (Option.some.inj he)
    have hall : All2 (Sps lo w0) [v0, v1, v2, v3] [x0, x1, x2, x3] := ((All2.nil.snoc s0).snoc s1).snoc s2 |>.snoc s3
    obtain ⟨a0, n0, p0, rfl, -⟩ : ∃ a n c, v0 = .slice a n c ∧ True := let ⟨a, c, h, _⟩ := s0.form; ⟨a, _, c, h, trivial⟩
    obtain ⟨a1, n1, p1, rfl, -⟩ : ∃ a n c, v1 = .slice a n c ∧ True := let ⟨a, c, h, _⟩ := s1.form; ⟨a, _, c, h, trivial⟩
    obtain ⟨a2, n2, p2, rfl, -⟩ : ∃ a n c, v2 = .slice a n c ∧ True := let ⟨a, c, h, _⟩ := s2.form; ⟨a, _, c, h, trivial⟩
    obtain ⟨a3, n3, p3, rfl, -⟩ : ∃ a n c, v3 = .slice a n c ∧ True := let ⟨a, c, h, _⟩ := s3.form; ⟨a, _, c, h, trivial⟩
    have hx : ∀ w : World, (Instr.arrayAt 77 (.slice (some ⟨b, o, none⟩) 4 cap)).run Tryz.prog w = .ok (.pointer (some ⟨b, o, none⟩)) w := fun w => by kernel_rfl
    have HA := Lib.hid hall
    rw [Nat.add_zero] at c0
    replace c0 := (hb0.cell (p := ⟨b, o, none⟩) hbl).trans c0
    replace c1 := (hb0.cell (p := ⟨b, o + 1, none⟩) hbl).trans c1
    replace c2 := (hb0.cell (p := ⟨b, o + 2, none⟩) hbl).trans c2
    replace c3 := (hb0.cell (p := ⟨b, o + 3, none⟩) hbl).trans c3
    replace hbl := Nat.lt_of_lt_of_le hbl hb0.size
    clear hb0
    clear hall hs s0 s1 s2 s3
    go_enter Tryz.func39, Tryz.ntmps39
    go_wp2_with fail
    refine bodyPost_ret (v := .agg #[.slice a0 n0 p0, .slice a1 n1 p1, .slice a2 n2 p2, .slice a3 n3 p3]) (results_cell_row rfl _ _ (w.heap.size + 1) 77 #[.slice a0 n0 p0, .slice a1 n1 p1, .slice a2 n2 p2, .slice a3 n3 p3] _ _ rfl (heap_alloc2_new w _ _) Tryz.underlying77 rfl (by kernel_rfl)) rfl ?_
    exact ⟨_, _, _, _, _, _, _, _, _, _, _, _, rfl, HA.out, by (repeat' (first | with_reducible exact Below.refl _ _ | with_reducible assumption | with_reducible refine Below.setCell ?_ ?_ _ | with_reducible refine Below.alloc ?_ ?_ _ | with_reducible refine Below.drew ?_ | with_reducible refine belDrewN ?_ _ | with_reducible refine Below.trans ?_ (Below.mono (by assumption) ?_) | omega | (simp; omega) | (simp; done)))⟩
theorem infoFl : (Tryz.prog.info? 88).map (fun i => (i.zero, i.size, i.bytes)) = some (some (.agg #[.slice none 0 0, .slice none 0 0, .slice none 0 0, .slice none 0 0, .bool false]), 5, 104) := by kernel_rfl
set_option maxHeartbeats 2000000 in
set_option maxRecDepth 100000 in
theorem flatsOf_own {lo : Nat} (fs : List Ft) (v : Value) (w : World) (hs : Fts lo w v fs) (h4 : ∀ (k : Nat) f, fs[k]? = some f → f.box.length = 4) (hl : fs.length ≤ 1000000) :
    Calls Tryz.prog 22 #[v] w fun e w' => ∃ v' rs, e = .returned v' ∧ OwnSl w.heap.size 88 5 R5.enc w' v' rs ∧ All2 (R5.ok 0 w) rs fs ∧ Below w.heap.size w w' := by
  obtain ⟨a, cap, rfl, hlc, hcm⟩ := hs.form
  unfold maxLen at hcm
  generalize hn : fs.length = n at *
  have HN := Lib.hid hn
  have HS := Lib.hid (hs.mono (Nat.zero_le _))
  have H4 := Lib.hid h4
  obtain ⟨i0, hi, hy0, hy1, hy2⟩ := info_parts infoFl
  clear hn hs h4
  go_enter Tryz.func22, Tryz.ntmps22
  go_wp2_with (at_make; refine wpList_make_own _ rfl _ _ 50 rfl w.heap.size 88 i0 _ 5 Tryz.underlying50 hi hy0 hy1 _ _ _ n rfl rfl rfl ?b1 ?b2 ?b3 ?_)
  case b1 => rw [hy2]; omega
  case b2 => simp only [maxLen]; omega
  case b3 => omega
  intro w1 hown1 hgrow1
  have hb1 : Below w.heap.size w w1 := (Below.refl _ _).grown hgrow1 (Nat.le_refl _) (fun k hk => by cases hk)
  have HO1 := Lib.hid (show OwnSl w.heap.size 88 5 R5.enc w1 (.slice (some ⟨w.heap.size, 0, none⟩) 0 n) ([] : List R5) by simpa [OwnSl] using hown1)
  clear hown1 hgrow1
  go_wp2_with fail
  go_loopw [3, 5, 11] (fun o _ i wr => ∃ (k : Nat) (rs : List R5), k ≤ n ∧ i = .int .i64 k ∧ OwnSl w.heap.size 88 5 R5.enc wr o rs ∧ Hid (All2 (R5.ok 0 w) rs (fs.take k)) ∧ Below w.heap.size w wr) (fun _ _ i _ => n - (intOf i).toNat)
  case atStart => exact ⟨0, [], by omega, rfl, HO1.out, Lib.hid (by simpa using All2.nil), hb1⟩
  case round =>
    obtain ⟨k, rs, hk, rfl, hO, HR, hbr⟩ := hrel
    have HO := Lib.hid hO
    clear hO HO1 hb1
    have hzr := hbr.size
    by_cases hlt : k < n
    · have i1 : (k : Int) < (n : Int) := by omega
      have i2 : (0 : Int) ≤ (k : Int) := by omega
      obtain ⟨f, hx⟩ : ∃ f, fs[k]? = some f := ⟨_, List.getElem?_eq_getElem (by rw [HN.out]; exact hlt)⟩
      obtain ⟨b, o, sv, rfl, hbl, c0, c1, hsv⟩ := HS.out.at hx
      replace c0 := (hbr.cell (p := ⟨b, o + k * 2, none⟩) hbl).trans c0
      replace c1 := (hbr.cell (p := ⟨b, o + k * 2 + 1, none⟩) hbl).trans c1
      replace hbl := Nat.lt_of_lt_of_le hbl hzr
      have HX := Lib.hid hx
      have HV := Lib.hid hsv
      obtain ⟨sa, sc, rfl, -, -⟩ := hsv.form
      have h4f := Lib.hid (H4.out k f hx)
      clear hx hsv
      have hal : Below wr.heap.size wr ((wr.alloc (.cells #[.slice sa f.box.length sc, .bool f.acc] 81)).drew) := ((Below.refl _ _).alloc (Nat.le_refl _) _).drew
      have HAL := Lib.hid hal
      have HVB := Lib.hid (hbr.trans (hal.mono hzr))
      have kk : ((wr.alloc (.cells #[.slice sa f.box.length sc, .bool f.acc] 81)).drew).cell? ⟨wr.heap.size, 1, none⟩ = some (.bool f.acc) := by simp [World.cell?_drew]
      have ks : wr.heap.size < ((wr.alloc (.cells #[.slice sa f.box.length sc, .bool f.acc] 81)).drew).heap.size := by simp [World.drew]
      have HKK := Lib.hid (And.intro kk ks)
      clear kk ks
      have HBR := Lib.hid hbr
      have HBD := Lib.hid (show rs.length ≤ 1000000 by have := HR.out.1; rw [List.length_take] at this; omega)
      clear hbr hal
      go_wp2_with fail
      go_region_law (first | ((fail_if_success have := hb4); go_simp; go_wp2_with (go_at_call 39; refine (sidesOf_any f.box _ w _ HV.out HVB.out h4f.out).mono ?_; rintro e w4 ⟨a0, n0, p0, a1, n1, p1, a2, n2, p2, a3, n3, p3, rfl, ha4, hb4⟩; have e1 := (hb4.cell (p := ⟨wr.heap.size, 1, none⟩) HKK.out.2).trans HKK.out.1)) | (refine step_append_lies _ rfl (.tmp 15) (.tmp 22) 50 rfl w.heap.size 88 i0 _ 5 104 Tryz.underlying50 hi hy0 hy1 hy2 rfl (by decide) u3 rs.length (rs.flatMap R5.enc) (by simp [Act.eval]) (World.ownsRow.alloc (OwnSl.kept HO.out (HAL.out.trans (hb4.mono HAL.out.size))) _) ⟨w4.heap.size, 0, none⟩ 1 1 (R5.enc ⟨.slice a0 n0 p0, .slice a1 n1 p1, .slice a2 n2 p2, .slice a3 n3 p3, f.acc⟩) (by simp [Act.eval]) rfl (cellsNew w4 (R5.enc ⟨.slice a0 n0 p0, .slice a1 n1 p1, .slice a2 n2 p2, .slice a3 n3 p3, f.acc⟩) _) (by simp [Value.oneCell']) (by decide) (by have := HBD.out; simp only [maxLen]; omega) (by have := HBD.out; omega) (by have := hb4.size; have := HAL.out.size; have := HBR.out.size; simp; omega) _ rfl ?_; intro g5 cap5 w5 hown5 hgrow5 hlies5 hlt5))
      all_goals
        have hw4 : Below wr.heap.size wr w4 := HAL.out.trans (hb4.mono HAL.out.size)
        have hB : Below w.heap.size w w5 := belGrown ((HBR.out.trans (hw4.mono HBR.out.size)).alloc (by have := hw4.size; omega) _) (World.ownsRow.alloc (OwnSl.kept HO.out hw4) _) hgrow5 (by have := hw4.size; simp; omega)
        have hown6 : OwnSl w.heap.size 88 5 R5.enc w5 (.slice (some ⟨g5, 0, none⟩) (rs.length + 1) cap5) (rs ++ [⟨.slice a0 n0 p0, .slice a1 n1 p1, .slice a2 n2 p2, .slice a3 n3 p3, f.acc⟩]) := OwnSl.pushed rfl hown5
        have HO6 := Lib.hid hown6
        have HR6 := Lib.hid (show All2 (R5.ok 0 w) (rs ++ [⟨.slice a0 n0 p0, .slice a1 n1 p1, .slice a2 n2 p2, .slice a3 n3 p3, f.acc⟩]) (fs.take (k + 1)) by
          rw [List.take_add_one, HX.out]
          exact All2.snoc HR.out ⟨ha4, rfl⟩)
        clear hown5 hown6 hgrow5 hlies5 hlt5 e1 ha4 hb4 hw4
        go_wp2
        go_roundw
        case rel => exact ⟨k + 1, _, by omega, by go_num, HO6.out, HR6, hB⟩
        case measure => simp [intOf]; omega
    · have hkn : k = n := by omega
      go_wp2
      go_ret
      refine ⟨u3, rs, rfl, HO.out, ?_, hbr⟩
      have := HR.out
      rwa [List.take_of_length_le (by rw [HN.out]; omega)] at this
theorem flatsOf_any {lo : Nat} (fs : List Ft) (v : Value) (w : World) (hs : Fts lo w v fs) (h4 : ∀ (k : Nat) f, fs[k]? = some f → f.box.length = 4) (hl : fs.length ≤ 1000000) :
    Calls Tryz.prog 22 #[v] w fun e w' => ∃ v', e = .returned v' ∧ Ifs 0 w' v' fs ∧ Below w.heap.size w w' := by
  refine (flatsOf_own fs v w hs h4 hl).mono ?_
  rintro e w' ⟨v', rs, rfl, h1, h2, h3⟩
  exact ⟨v', rfl, ⟨rs, OwnSl.fr (sz := 5) (enc := R5.enc) (fun _ => rfl) (OwnSl.mono h1 (Nat.zero_le _)), h2.mono (fun _ _ h => h.keep (Kp.of h3))⟩, h3⟩
end Go.Proofs.YtajcogpfmpehkaaGreatDoor
