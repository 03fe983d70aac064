/- The common numbers of two sets: the reference's walk. -/
import Derived.Test.YtkcnbkkgpampaaaDoorFmF
namespace Go.Proofs.YtkcnbkkgpampaaaDoor
open Go.RowKit
theorem infoSp : (Tryd.prog.info? 113).map (fun i => (i.zero, i.size, i.bytes)) = some (some (.agg #[.int .i64 0, .int .i64 0]), 2, 16) := by kernel_rfl
def OwnSp (base : Nat) (w : World) (v : Value) (ys : List Sp) : Prop := OwnSl base 113 2 Sp.enc w v ys
theorem OwnSp.sps {base : Nat} {w : World} {v : Value} {ys : List Sp} (h : OwnSp base w v ys) : Sps base w v ys := OwnSl.fr (sz := 2) (enc := Sp.enc) (fun _ => rfl) h
theorem OwnSp.lit {base : Nat} {w : World} (h : base ≤ w.heap.size) : OwnSp base (w.alloc (.cells #[] 113)) (.slice (some ⟨w.heap.size, 0, none⟩) 0 0) [] := by
  have := World.ownsRow_made (e := 113) (size := 2) w #[] 0 h (by simp) (by simp)
  simpa [OwnSp, OwnSl] using this
def RetSp (ys : List Sp) (w : World) (e : Ending) (w' : World) : Prop := ∃ v, e = .returned v ∧ OwnSp w.heap.size w' v ys ∧ Below w.heap.size w w'
/-- What the inner loop has found. -/
def smj (x : Sp) (b : List Sp) (j : Nat) : List Sp := (b.take j).filterMap (meet1 x)
theorem smj_succ {x : Sp} {b : List Sp} {j : Nat} {y : Sp} (hy : b[j]? = some y) : smj x b (j + 1) = smj x b j ++ (meet1 x y).toList := by
  unfold smj
  rw [List.take_add_one, hy, List.filterMap_append]
  congr 1
theorem smi_succ {a b : List Sp} {i : Nat} {x : Sp} (hx : a[i]? = some x) : smeet (a.take (i + 1)) b = smeet (a.take i) b ++ smj x b b.length := by
  unfold smeet smj
  rw [List.take_add_one, hx, List.flatMap_append, List.take_length]
  simp
theorem smj_len (x : Sp) (b : List Sp) (j : Nat) : (smj x b j).length ≤ j := Nat.le_trans (List.length_filterMap_le _ _) (List.length_take_le _ _)
theorem smi_len (b : List Sp) : ∀ a : List Sp, (smeet a b).length ≤ a.length * b.length
  | [] => by simp [smeet]
  | x :: a => by
    have := smi_len b a
    unfold smeet at this ⊢
    rw [List.flatMap_cons, List.length_append, List.length_cons, Nat.add_mul, Nat.one_mul]
    have := List.length_filterMap_le (meet1 x) b
    omega
theorem sm_bound {a b : List Sp} {i j : Nat} (x : Sp) (ha : a.length ≤ 2000) (hb : b.length ≤ 2000) (hj : j ≤ b.length) : (smeet (a.take i) b ++ smj x b j).length ≤ 4002000 := by
  rw [List.length_append]
  have h1 := smi_len b (a.take i)
  have h2 := smj_len x b j
  have h3 : (a.take i).length * b.length ≤ 2000 * 2000 := Nat.mul_le_mul (by rw [List.length_take]; omega) hb
  omega
set_option maxHeartbeats 4000000 in
theorem l2Meet_any {lo lo' : Nat} (xs ys : List Sp) (u v : Value) (w : World) (hs : Sps lo w u xs) (ht : Sps lo' w v ys) (hx : xs.length ≤ 2000) (hy : ys.length ≤ 2000) :
    Calls Tryd.prog 96 #[u, v] w (RetSp (smeet xs ys) w) := by
  obtain ⟨a, cap, rfl, hlc, hcm⟩ := hs.form
  obtain ⟨a', cap', rfl, hlc', hcm'⟩ := ht.form
  unfold maxLen at hcm hcm'
  generalize hn : xs.length = n at *
  generalize hm : ys.length = m at *
  have HN := Lib.hid hn
  have HM := Lib.hid hm
  obtain ⟨i0, hi, hy0, hy1, hy2⟩ := info_parts infoSp
  have HO0 := Lib.hid (OwnSp.lit (base := w.heap.size) (w := w) (Nat.le_refl _))
  have hal : Below w.heap.size w (w.alloc (.cells #[] 113)) := (Below.refl _ _).alloc (Nat.le_refl _) _
  clear hn hm
  go_enter Tryd.func96, Tryd.ntmps96
  go_wp2_with fail
  go_loopw [5, 6] (fun o i wr => ∃ k : Nat, k ≤ n ∧ i = .int .i64 k ∧ OwnSp w.heap.size wr o (smeet (xs.take k) ys) ∧ Below w.heap.size w wr) (fun _ i _ => n - (intOf i).toNat)
  case atStart => exact ⟨0, by omega, rfl, HO0.out, hal⟩
  case round =>
    obtain ⟨k, hk, rfl, hO, hbr⟩ := hrel
    have HO := Lib.hid hO
    clear hO HO0 hal
    have hzr := hbr.size
    by_cases hlt : k < n
    · obtain ⟨f, hfx⟩ : ∃ f, xs[k]? = some f := ⟨_, List.getElem?_eq_getElem (by rw [HN.out]; exact hlt)⟩
      have HX := Lib.hid hfx
      have i1 : (k : Int) < (n : Int) := by omega
      have i2 : (0 : Int) ≤ (k : Int) := by omega
      clear hfx
      go_wp2_with fail
      go_loopw [5, 7] (fun o i wi => ∃ j : Nat, j ≤ m ∧ i = .int .i64 j ∧ OwnSp w.heap.size wi o (smeet (xs.take k) ys ++ smj f ys j) ∧ Below w.heap.size w wi) (fun _ i _ => m - (intOf i).toNat)
      case atStart => exact ⟨0, by omega, rfl, by simpa [smj] using HO.out, hbr⟩
      case round =>
        obtain ⟨j, hj, rfl, hO, hbi⟩ := hrel
        obtain ⟨zs, hzs⟩ : ∃ zs, smeet (xs.take k) ys ++ smj f ys j = zs := ⟨_, rfl⟩
        rw [hzs] at hO
        have HZ := Lib.hid hzs
        have HO2 := Lib.hid hO
        clear hO hzs
        have hzi := hbi.size
        have hs2 := hs.below hbi
        have ht2 := ht.below hbi
        by_cases hlj : j < m
        · obtain ⟨b, o, f1, f2, rfl, hbl, hx1, c0, c1⟩ := hs2.at (show k < xs.length by rw [HN.out]; exact hlt)
          obtain ⟨b', o', g1, g2, rfl, hbl', hx2, d0, d1⟩ := ht2.at (show j < ys.length by rw [HM.out]; exact hlj)
          have HY := Lib.hid hx2
          have HF := Lib.hid (show f = ⟨f1, f2⟩ by have := HX.out; rw [hx1] at this; exact (Option.some.inj this).symm)
          clear hx1 hx2
          have i3 : (j : Int) < (m : Int) := by omega
          have i4 : (0 : Int) ≤ (j : Int) := by omega
          have HS := Lib.hid (smj_succ (x := f) HY.out)
          go_wp2_with fail
          refine wp_region_over (by kernel_rfl) (by kernel_rfl) (fun ov => ?_); have ov0 := fun x => ov x (b) (by (try simp) <;> omega); have ov1 := fun x => ov x (b') (by (try simp) <;> omega); clear ov; (iterate 9 (iterate 8 (try go_big_quiet_step (first | fail)))); refine wpQuiet_nil ?_; intro w8 hw9; have hb_w8 := below_over hw9; clear hw9 ov0 ov1
          have hz8 := hb_w8.size
          have c0' := (hb_w8.cell (p := ⟨b, o + k * 2, none⟩) hbl).trans c0; have c1' := (hb_w8.cell (p := ⟨b, o + k * 2 + 1, none⟩) hbl).trans c1
          have d0' := (hb_w8.cell (p := ⟨b', o' + j * 2, none⟩) hbl').trans d0; have d1' := (hb_w8.cell (p := ⟨b', o' + j * 2 + 1, none⟩) hbl').trans d1
          have HB8 := Lib.hid hb_w8
          have hbl8 : b < w8.heap.size := by omega
          have hbl8' : b' < w8.heap.size := by omega
          clear hb_w8 c0 c1 d0 d1
          obtain ⟨mx, hmx⟩ : ∃ mx, (if f1 < g1 then g1 else f1) = mx := ⟨_, rfl⟩
          rw [hmx]
          have HMX := Lib.hid (show max f1 g1 = mx by rw [← hmx, Int.max_def]; split <;> split <;> omega)
          clear hmx
          go_wp2_with fail
          refine wp_region_over (by kernel_rfl) (by kernel_rfl) (fun ov => ?_); have ov0 := fun x => ov x (b) (by (try simp) <;> omega); have ov1 := fun x => ov x (b') (by (try simp) <;> omega); clear ov; (iterate 9 (iterate 8 (try go_big_quiet_step (first | fail)))); refine wpQuiet_nil ?_; intro w9 hw9; have hb_w9 := below_over hw9; clear hw9 ov0 ov1
          have hb9 : Below wr.heap.size wr w9 := HB8.out.trans (hb_w9.mono hz8)
          have hq9 : Below w.heap.size w w9 := hbi.trans (hb9.mono hzi)
          have hz9 := hb9.size
          have HO9 := Lib.hid (OwnSl.kept HO2.out hb9)
          clear hb_w9 c0' c1' d0' d1' HO2 HB8
          obtain ⟨mn, hmn⟩ : ∃ mn, (if g2 < f2 then g2 else f2) = mn := ⟨_, rfl⟩
          rw [hmn]
          replace hmn : min f2 g2 = mn := by rw [← hmn, Int.min_def]; split <;> split <;> omega
          have HMN := Lib.hid hmn
          clear hmn
          by_cases hmt : mx ≤ mn
          · have HM1 := Lib.hid (show meet1 f ⟨g1, g2⟩ = some ⟨mx, mn⟩ by rw [HF.out, meet1, HMX.out, HMN.out, if_pos hmt])
            have HBD := Lib.hid (show zs.length ≤ 4002000 by rw [← HZ.out]; exact sm_bound (a := xs) (b := ys) (i := k) (j := j) f (by rw [HN.out]; exact hx) (by rw [HM.out]; exact hy) (by rw [HM.out]; exact hj))
            go_wp2_with (at_builtin; refine wpList_append_own _ rfl _ _ 100 rfl w.heap.size 113 i0 _ 2 16 Tryd.underlying100 hi hy0 hy1 hy2 rfl (by decide) _ _ _ rfl (World.ownsRow.alloc HO9.out _) ⟨w9.heap.size, 0, none⟩ 1 1 (Sp.enc ⟨mx, mn⟩) rfl rfl ?c1 ?c2 ?c3 ?c4 ?c5 ?_)
            case c1 => exact cellsNew w9 (Sp.enc ⟨mx, mn⟩) _
            case c2 => simp [Value.oneCell']
            case c3 => have := HBD.out; simp only [maxLen]; omega
            case c4 => have := HBD.out; omega
            case c5 => simp; omega
            intro v' w4 hown4 hgrow4 _
            have hB := belGrown (hq9.alloc (by omega) _) (World.ownsRow.alloc HO9.out _) hgrow4 (by simp; omega)
            have HO4 := Lib.hid (OwnSl.pushed rfl hown4)
            clear hown4 hgrow4
            go_wp2
            go_roundw
            case rel => exact ⟨j + 1, by omega, by go_num, by rw [HS.out, HM1.out, Option.toList_some, ← List.append_assoc, HZ.out]; exact HO4.out, hB⟩
            case measure => simp [intOf]; omega
          · have HM1 := Lib.hid (show meet1 f ⟨g1, g2⟩ = none by rw [HF.out, meet1, HMX.out, HMN.out, if_neg hmt])
            go_wp2
            go_roundw
            case rel => exact ⟨j + 1, by omega, by go_num, by rw [HS.out, HM1.out, Option.toList_none, List.append_nil, HZ.out]; exact HO9.out, hq9⟩
            case measure => simp [intOf]; omega
        · have hjm : j = m := by omega
          have HE := Lib.hid (show smeet (xs.take (k + 1)) ys = zs by rw [smi_succ HX.out, HM.out, ← hjm, HZ.out])
          go_wp2
          go_roundw
          case rel => exact ⟨k + 1, by omega, by go_num, by rw [HE.out]; exact HO2.out, hbi⟩
          case measure => simp [intOf]; omega
    · have hkn : k = n := by omega
      have HE := Lib.hid (show smeet (xs.take k) ys = smeet xs ys by rw [List.take_of_length_le (by rw [HN.out]; omega)])
      go_wp2
      go_ret
      exact ⟨_, rfl, by rw [← HE.out]; exact HO.out, hbr⟩
end Go.Proofs.YtkcnbkkgpampaaaDoor
