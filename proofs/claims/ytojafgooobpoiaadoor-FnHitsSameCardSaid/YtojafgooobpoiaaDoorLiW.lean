/- Orders of rules: the program's walks. -/
import Derived.Test.YtojafgooobpoiaaDoorDxBT
import Derived.Test.YtojafgooobpoiaaDoorFtW
import Derived.Test.YtojafgooobpoiaaDoorHtP
import Derived.Test.YtojafgooobpoiaaDoorFnX
import Derived.Test.YtojafgooobpoiaaDoorTiW
namespace Go.Proofs.YtojafgooobpoiaaDoor
open Go.RowKit
theorem fvalid_ftN {fs : List Ft} (h : fvalid fs = true) : ftN fs ≤ 1048576 := by
  unfold ftN
  rw [← gcnt_sum (fun f : Ft => bxN f.box)]
  have h60 := fvalid_60 h
  have h1 : gcnt (fun f : Ft => bxN f.box) fs ≤ fs.length * 164 := gcnt_bound fs (fun k f hf => by
    have hb := fvalid_at h hf
    have h2 : gcnt List.length f.box ≤ f.box.length * 40 := gcnt_bound f.box (fun j xs hx => bvalid_lens hb j xs hx)
    rw [(bvalid_four hb).1] at h2
    unfold bxN
    rw [← gcnt_sum List.length, (bvalid_four hb).1]
    omega)
  omega
theorem lift1_yes {n : Nat} {fs : List Ft} (h : cansw fs n = true) : lift1 (n + 1) fs = lift1 n (swapAt fs n) := by
  conv => lhs; unfold lift1
  rw [if_pos h]
theorem lift1_no {n : Nat} {fs : List Ft} (h : cansw fs n = false) : lift1 (n + 1) fs = (fs, n + 1) := by
  conv => lhs; unfold lift1
  rw [h]
  rfl
theorem swfl_yes {fs : List Ft} {n : Nat} (h : cansw fs n = true) : swfl fs n = swapAt fs n := by
  unfold swfl
  rw [(cansw_range h).1, h]
  rfl
/-- Numbers of rules as numbers. -/
def ints (o : List Nat) : List Int := List.map (fun i : Nat => (i : Int)) o
theorem ints_len (o : List Nat) : (ints o).length = o.length := by simp [ints]
theorem ints_get {o : List Nat} {k i : Nat} (h : o[k]? = some i) : (ints o)[k]? = some (i : Int) := by simp [ints, h]
theorem ints_set (o : List Nat) (k i : Nat) : (ints o).set k (i : Int) = ints (o.set k i) := by simp [ints, List.map_set]
set_option maxHeartbeats 1000000 in
theorem inOrder_e (n : Nat) (hn : n ≤ 1000) (w : World) :
    Calls Tryd.prog 67 #[.int .i64 (n : Int)] w fun e w' => ∃ v', e = .returned v' ∧ OwnIn w.heap.size w' v' (ints (List.range n)) ∧ Below w.heap.size w w' := by
  obtain ⟨i0, hi, hz0, hz1, hz2⟩ := info_parts infoInt
  go_enter Tryd.func67, Tryd.ntmps67
  go_wp2_with (at_make; refine wpList_make_full _ rfl _ _ 35 rfl w.heap.size 3 i0 _ 1 Tryd.underlying35 hi hz0 hz1 _ _ _ _ n rfl rfl rfl rfl ?b1 ?b2 ?b3 ?_)
  case b1 => rw [hz2]; omega
  case b2 => simp only [maxLen]; omega
  case b3 => omega
  intro w2 hown2 hgrow2
  have hb2 : Below w.heap.size w w2 := (Below.refl _ _).grown hgrow2 (Nat.le_refl _) (fun k hk => by cases hk)
  have HO2 := Lib.hid (show OwnIn w.heap.size w2 (.slice (some ⟨w.heap.size, 0, none⟩) n n) (ints (List.range 0) ++ List.replicate (n - 0) (0 : Int)) by
    have : OwnIn w.heap.size w2 (.slice (some ⟨w.heap.size, 0, none⟩) n n) (List.replicate n (0 : Int)) := by
      unfold OwnIn OwnSl
      rw [List.length_replicate, ← madeFlat (sz := 1) (enc := encI) (fun _ => rfl) (by omega) (.int .i64 0) (0 : Int) rfl, Nat.mul_one]
      exact hown2
    simpa [ints] using this)
  clear hown2 hgrow2
  go_wp2_with fail
  go_loopw [4, 9] (fun _ i wr => ∃ k : Nat, k ≤ n ∧ i = .int .i64 k ∧ Hid (OwnIn w.heap.size wr (.slice (some ⟨w.heap.size, 0, none⟩) n n) (ints (List.range k) ++ List.replicate (n - k) (0 : Int))) ∧ Below w.heap.size w wr) (fun _ i _ => n - (intOf i).toNat)
  case atStart => exact ⟨0, by omega, rfl, HO2, hb2⟩
  case round =>
    obtain ⟨k, hk, rfl, HO, hbr⟩ := hrel
    by_cases hlt : k < n
    · have i1 : (k : Int) < (n : Int) := by omega
      have i2 : (0 : Int) ≤ (k : Int) := by omega
      have hl : (ints (List.range k) ++ List.replicate (n - k) (0 : Int)).length = n := by simp [ints]; omega
      obtain ⟨hst, hgr⟩ := OwnSl.store (sz := 1) (enc := encI) (fun _ => rfl) hl.symm HO.out (k := k) (by rw [hl]; exact hlt) (k : Int)
      have hs1 : (ints (List.range k) ++ List.replicate (n - k) (0 : Int)).set k (k : Int) = ints (List.range (k + 1)) ++ List.replicate (n - (k + 1)) (0 : Int) := by
        rw [set_rep (ints (List.range k)) n k 0 (k : Int) (by simp [ints]) hlt]
        simp [ints, List.range_succ]
      rw [hs1] at hst
      have hcz := OwnSl.cell (sz := 1) (enc := encI) (fun _ => rfl) HO.out (k := k) (y := (0 : Int)) (by rw [List.getElem?_append_right (by simp [ints]), List.getElem?_replicate, if_pos (by simp [ints]; omega)])
      have d0 := hcz 0 _ rfl
      have hfz : ∀ j, wr.frozen? ⟨w.heap.size, j, none⟩ = false := OwnSl.frz HO.out
      simp only [Nat.add_zero, Nat.mul_one, wSet] at d0 hst hgr
      have hB := hbr.grown hgr hbr.size (fun z hz => by cases hz; exact Nat.le_refl _)
      have HST := Lib.hid hst
      have HB := Lib.hid hB
      clear hcz hst hgr hB hs1 hl
      go_wp2
      go_roundw
      case rel => exact ⟨k + 1, by omega, by go_num, HST, HB.out⟩
      case measure => simp [intOf]; omega
    · have hkn : k = n := by omega
      subst hkn
      go_wp2
      go_ret
      refine ⟨_, rfl, ?_, hbr⟩
      have := HO.out
      rwa [Nat.sub_self, List.replicate_zero, List.append_nil] at this
set_option maxHeartbeats 2000000 in
set_option maxRecDepth 100000 in
theorem arrange_e {lo : Nat} {fs : List Ft} {o : List Nat} {v u : Value} {w : World} (hs : Ifs lo w v fs) (hu : Ins w u (ints o)) (hb : ∀ i ∈ o, i < fs.length) (hl : fs.length ≤ 1000) (ho : o.length = fs.length) :
    Calls Tryd.prog 68 #[v, u] w fun e w' => ∃ v', e = .returned v' ∧ Ifs 0 w' v' (arr fs o) ∧ Below w.heap.size w w' := by
  obtain ⟨a, cap, rfl, hlc, hcm⟩ := hs.form
  obtain ⟨a', cap', rfl, hlc', hcm', -⟩ := id hu
  rw [ints_len, ho] at hu hlc' ⊢
  unfold maxLen at hcm hcm'
  generalize hn : fs.length = n at *
  have HN := Lib.hid hn
  have HS := Lib.hid hs
  have HU := Lib.hid hu
  have HBD := Lib.hid hb
  have HOL := Lib.hid ho
  obtain ⟨i0, hi, hy0, hy1, hy2⟩ := info_parts infoFl
  clear hn hs hu hb ho
  go_enter Tryd.func68, Tryd.ntmps68
  go_wp2_with (at_make; refine wpList_make_own _ rfl _ _ 63 rfl w.heap.size 110 i0 _ 5 Tryd.underlying63 hi hy0 hy1 _ _ _ n rfl rfl rfl ?b1 ?b2 ?b3 ?_)
  case b1 => rw [hy2]; omega
  case b2 => simp only [maxLen]; omega
  case b3 => omega
  intro w1 hown1 hgrow1
  have hb1 : Below w.heap.size w w1 := (Below.refl _ _).grown hgrow1 (Nat.le_refl _) (fun k hk => by cases hk)
  have HO1 := Lib.hid (show OwnSl w.heap.size 110 5 R5.enc w1 (.slice (some ⟨w.heap.size, 0, none⟩) 0 n) ([] : List R5) by simpa [OwnSl] using hown1)
  clear hown1 hgrow1
  go_wp2_with fail
  go_loopw [5, 7, 13] (fun q _ i wr => ∃ (k : Nat) (rs : List R5), k ≤ n ∧ i = .int .i64 k ∧ Hid (OwnSl w.heap.size 110 5 R5.enc wr q rs) ∧ Hid (All2 (R5.ok lo w) rs (arr fs (o.take k))) ∧ Below w.heap.size w wr) (fun _ _ i _ => n - (intOf i).toNat)
  case atStart => exact ⟨0, [], by omega, rfl, HO1, Lib.hid All2.nil, hb1⟩
  case round =>
    obtain ⟨k, rs, hk, rfl, HO, HR, hbr⟩ := hrel
    have hzr := hbr.size
    by_cases hlt : k < n
    · have i1 : (k : Int) < (n : Int) := by omega
      have i2 : (0 : Int) ≤ (k : Int) := by omega
      obtain ⟨x, hx⟩ : ∃ x, o[k]? = some x := ⟨_, List.getElem?_eq_getElem (by rw [HOL.out]; exact hlt)⟩
      have hxn : x < n := HBD.out x (List.mem_of_getElem? hx)
      obtain ⟨b, oo, y, rfl, hbl, hy, d0⟩ := (HU.out.below hbr).at (show k < (ints o).length by rw [ints_len, HOL.out]; exact hlt)
      rw [ints_get hx] at hy
      cases hy
      obtain ⟨f, hf⟩ : ∃ f, fs[x]? = some f := ⟨_, List.getElem?_eq_getElem (by rw [HN.out]; exact hxn)⟩
      obtain ⟨b', o', v0, v1, v2, v3, rfl, hbl', c0, c1, c2, c3, c4, hss⟩ := HS.out.at hf
      obtain ⟨a0, n0, p0, a1, n1, p1, a2, n2, p2, a3, n3, p3, rfl, rfl, rfl, rfl⟩ := sl4_form hss
      replace c0 := (hbr.cell (p := ⟨b', o' + x * 5, none⟩) hbl').trans c0
      replace c1 := (hbr.cell (p := ⟨b', o' + x * 5 + 1, none⟩) hbl').trans c1
      replace c2 := (hbr.cell (p := ⟨b', o' + x * 5 + 2, none⟩) hbl').trans c2
      replace c3 := (hbr.cell (p := ⟨b', o' + x * 5 + 3, none⟩) hbl').trans c3
      replace c4 := (hbr.cell (p := ⟨b', o' + x * 5 + 4, none⟩) hbl').trans c4
      obtain ⟨p, hp⟩ : ∃ p, f.acc = p := ⟨_, rfl⟩
      rw [hp] at c4
      have HOK := Lib.hid (show R5.ok lo w ⟨.slice a0 n0 p0, .slice a1 n1 p1, .slice a2 n2 p2, .slice a3 n3 p3, p⟩ f from ⟨hss, hp.symm⟩)
      have HAR := Lib.hid (show arr fs (o.take (k + 1)) = arr fs (o.take k) ++ [f] by
        rw [List.take_add_one, hx]
        unfold arr
        rw [List.filterMap_append]
        simp [hf])
      have HBD2 := Lib.hid (show rs.length ≤ 1000 by
        rw [HR.out.1, arr_len (fun i hi => by rw [HN.out]; exact HBD.out i (List.mem_of_mem_take hi)), List.length_take]; omega)
      have x1 : (x : Int) < (n : Int) := by omega
      have x2 : (0 : Int) ≤ (x : Int) := by omega
      clear hss hp hx hf
      go_wp2_with (at_builtin; refine wpList_append_own _ rfl _ _ 63 rfl w.heap.size 110 i0 _ 5 104 Tryd.underlying63 hi hy0 hy1 hy2 rfl (by decide) _ _ _ rfl (World.ownsRow.alloc HO.out _) ⟨wr.heap.size, 0, none⟩ 1 1 (R5.enc ⟨.slice a0 n0 p0, .slice a1 n1 p1, .slice a2 n2 p2, .slice a3 n3 p3, p⟩) rfl rfl ?c1 ?c2 ?c3 ?c4 ?c5 ?_)
      case c1 => exact cellsNew wr (R5.enc ⟨.slice a0 n0 p0, .slice a1 n1 p1, .slice a2 n2 p2, .slice a3 n3 p3, p⟩) _
      case c2 => simp [Value.oneCell']
      case c3 => have := HBD2.out; simp only [maxLen]; omega
      case c4 => have := HBD2.out; omega
      case c5 => simp; omega
      intro v' w4 hown4 hgrow4 _
      have hB := belGrown (hbr.alloc (by omega) _) (World.ownsRow.alloc HO.out _) hgrow4 (by simp; omega)
      have HO4 := Lib.hid (OwnSl.pushed rfl hown4)
      clear hown4 hgrow4
      go_wp2
      go_roundw
      case rel => exact ⟨k + 1, _, by omega, by go_num, HO4, Lib.hid (by rw [HAR.out]; exact All2.snoc HR.out HOK.out), hB⟩
      case measure => simp [intOf]; omega
    · have hkn : k = n := by omega
      go_wp2
      go_ret
      have hR := HR.out
      rw [List.take_of_length_le (by rw [HOL.out]; omega)] at hR
      exact ⟨u5, rfl, ⟨rs, (OwnSl.fr (sz := 5) (enc := R5.enc) (fun _ => rfl) HO.out).mono (Nat.zero_le _), hR.mono (fun _ _ h => ⟨h.1.mono (fun _ _ g => (g.mono (Nat.zero_le _)).below hbr), h.2⟩)⟩, hbr⟩
theorem tieSt_get {fs : List Ft} {r c : Nat} (hr : r < fs.length) (hc : c < fs.length) : ∃ row, (tieSt fs fs.length fs.length)[r]? = some row ∧ row[c]? = some (tieM fs r c) ∧ row.length = fs.length := by
  obtain ⟨m, hm⟩ : ∃ m, fs.length = m + 1 := ⟨fs.length - 1, by omega⟩
  have : tieSt fs fs.length fs.length = ties fs := by
    rw [← tieAll_done hm]
    conv => lhs; arg 3; rw [hm]
    rfl
  rw [this]
  exact ⟨_, ties_get hr, tieM_at hc, by simp⟩
/-- What the graph's cells hold. -/
theorem ties_read {fs : List Ft} {w : World} {lo hi G : Nat} {vs : List Value} (h : TiV w lo hi G fs.length vs (tieSt fs fs.length fs.length)) {r c : Nat} (hr : r < fs.length) (hc : c < fs.length) :
    ∃ g cap, g < w.heap.size ∧ w.cell? ⟨G, r, none⟩ = some (.slice (some ⟨g, 0, none⟩) fs.length cap) ∧ w.cell? ⟨g, c, none⟩ = some (.bool (tieM fs r c)) := by
  obtain ⟨row, h1, h2, h3⟩ := tieSt_get hr hc
  obtain ⟨x, hx⟩ : ∃ x, vs[r]? = some x := ⟨_, List.getElem?_eq_getElem (by have := h.2.2.2.len; rw [this]; exact (List.getElem?_eq_some_iff.1 h1).1)⟩
  obtain ⟨g, cap, rfl, hg, -, e0, e1, -, -⟩ := TiV.store h hx h1 h2
  rw [h3] at e0
  exact ⟨g, cap, hg, e0, e1⟩
end Go.Proofs.YtojafgooobpoiaaDoor
