/- Orders of rules: the program's walks. -/
import Derived.Test.YthflbpoogolebaaDoorTiP
import Derived.Test.YthflbpoogolebaaDoorFtW
import Derived.Test.YthflbpoogolebaaDoorHtP
import Derived.Test.YthflbpoogolebaaDoorFnB
import Derived.Test.YthflbpoogolebaaDoorTiW
namespace Go.Proofs.YthflbpoogolebaaDoor
open Go.RowKit
theorem fvalid_ftN {fs : List Ft} (h : fvalid fs = true) : ftN fs ≤ 1048576 := by
  unfold ftN
  rw [← gcnt_sum (fun f : Ft => bxN f.box)]
  have h60 := fvalid_60 h
  have h1 : gcnt (fun f : Ft => bxN f.box) fs ≤ fs.length * 164 := gcnt_bound fs (fun k f hf => by
    have hb := fvalid_at h hf
    have h2 : gcnt List.length f.box ≤ f.box.length * 40 := gcnt_bound f.box (fun j xs hx => bvalid_lens hb j xs hx)
    rw [(bvalid_four hb).1] at h2
    unfold bxN
    rw [← gcnt_sum List.length, (bvalid_four hb).1]
    omega)
  omega
theorem lift1_yes {n : Nat} {fs : List Ft} (h : cansw fs n = true) : lift1 (n + 1) fs = lift1 n (swapAt fs n) := by
  conv => lhs; unfold lift1
  rw [if_pos h]
theorem lift1_no {n : Nat} {fs : List Ft} (h : cansw fs n = false) : lift1 (n + 1) fs = (fs, n + 1) := by
  conv => lhs; unfold lift1
  rw [h]
  rfl
theorem swfl_yes {fs : List Ft} {n : Nat} (h : cansw fs n = true) : swfl fs n = swapAt fs n := by
  unfold swfl
  rw [(cansw_range h).1, h]
  rfl
set_option maxHeartbeats 2000000 in
set_option maxRecDepth 100000 in
theorem specLiftFlat_e {lo : Nat} {fs R : List Ft} {v : Value} {n q : Int} {w : World} (hs : Fts lo w v fs) (hN : ftN fs ≤ 1048576) (h : (lift fs n).1 = R) (hq : (lift fs n).2 = q) :
    Calls Tryd.prog 16 #[v, .int .i64 n] w fun e w' => ∃ v', e = .returned (.tuple #[v', .int .i64 q]) ∧ Fts 0 w' v' R ∧ Below w.heap.size w w' := by
  have HR := Lib.hid h
  have HQ := Lib.hid hq
  clear h hq
  cases hv : fvalid fs
  · have hqf : q = -1 := by rw [← HQ.out, lift, hv]; rfl
    subst hqf
    go_enter Tryd.func16, Tryd.ntmps16
    go_wp2_with fail
    refine (ownFlats_any fs v w hs hN).mono ?_
    rintro e w1 ⟨v1, rfl, ho1, hb1⟩
    have HF1 := Lib.hid ho1.fts
    clear ho1
    go_wp2_with fail
    refine (specFV_b HF1.out hv).mono ?_
    rintro e w2 ⟨rfl, hb2⟩
    have hw2 := hb1.trans (hb2.mono hb1.size)
    go_wp2
    go_ret2
    refine ⟨_, rfl, ?_, hw2.alloc hw2.size _⟩
    rw [← HR.out, lift, hv]
    exact ⟨[], (OwnSl.fr (sz := 2) (enc := RF.enc) (fun _ => rfl) (litOwn 58 2 RF.enc (base := 0) (Nat.zero_le _))), All2.nil⟩
  · have HV := Lib.hid hv
    go_enter Tryd.func16, Tryd.ntmps16
    go_wp2_with fail
    refine (ownFlats_any fs v w hs hN).mono ?_
    rintro e w1 ⟨v1, rfl, ho1, hb1⟩
    obtain ⟨a, cap, rfl, hlc, hcm⟩ := ho1.form
    unfold maxLen at hcm
    have HF1 := Lib.hid ho1.fts
    generalize hn : fs.length = m at *
    have HNN := Lib.hid hn
    clear ho1
    go_wp2_with fail
    refine (specFV_b HF1.out hv).mono ?_
    rintro e w2 ⟨rfl, hb2⟩
    have hw2 := hb1.trans (hb2.mono hb1.size)
    have HF2 := Lib.hid (HF1.out.below hb2)
    have hn60 : m ≤ 60 := by rw [← HNN.out]; exact fvalid_60 HV.out
    clear hb1 hb2 HF1 hv hn
    cases hin : inB n 0 ((m : Int) - 1)
    · have hqf : q = -1 := by rw [← HQ.out, lift, HNN.out, hin, Bool.and_false]; rfl
      subst hqf
      go_wp2_with fail
      refine (l1In_b hin _).mono ?_
      rintro e _ ⟨rfl, rfl⟩
      go_wp2
      go_ret2
      refine ⟨_, rfl, ?_, hw2.alloc hw2.size _⟩
      rw [← HR.out, lift, HNN.out, hin, Bool.and_false]
      exact ⟨[], (OwnSl.fr (sz := 2) (enc := RF.enc) (fun _ => rfl) (litOwn 58 2 RF.enc (base := 0) (Nat.zero_le _))), All2.nil⟩
    · obtain ⟨h0, h1⟩ := inB_iff.1 hin
      obtain ⟨k0, rfl⟩ : ∃ k : Nat, n = k := ⟨n.toNat, by omega⟩
      have HL := Lib.hid (show lift fs (k0 : Int) = ((lift1 k0 fs).1, ((lift1 k0 fs).2 : Int)) by rw [lift, HV.out, HNN.out, hin]; rfl)
      obtain ⟨v5, w5, hrun, ⟨rs5, ho5, ha5⟩, hb5⟩ := copyFts (k := m) HF2.out (Nat.le_refl _) (by omega)
      rw [List.take_of_length_le (by rw [HNN.out]; exact Nat.le_refl _)] at ha5
      have hw5 := hw2.trans (hb5.mono hw2.size)
      have HF5 := Lib.hid (show Fts 0 w5 v5 fs from ⟨rs5, (OwnSl.fr (sz := 2) (enc := RF.enc) (fun _ => rfl) ho5).mono (Nat.zero_le _), ha5.mono (fun _ _ h => ⟨(h.1.mono (Nat.zero_le _)).below hb5, h.2⟩)⟩)
      clear ha5 hb5 ho5
      go_wp2_with fail
      refine (l1In_b hin _).mono ?_
      rintro e _ ⟨rfl, rfl⟩
      go_wp2_with (at_builtin; refine wpList_append_run rfl _ _ 23 rfl rfl rfl hrun ?_)
      go_loopw [1, 6, 7] (fun i q _ wr => ∃ (k : Nat) (L : List Ft), k < m ∧ i = .int .i64 k ∧ Hid (Fts 0 wr q L) ∧ Hid (lift1 k L = lift1 k0 fs) ∧ Hid (fvalid L = true) ∧ Hid (L.length = m) ∧ Below w.heap.size w wr) (fun i _ _ _ => (intOf i).toNat)
      case atStart => exact ⟨k0, fs, by omega, rfl, HF5, Lib.hid rfl, HV, HNN, hw5⟩
      case round =>
        obtain ⟨k, L, hk, rfl, HF, HK, HVL, HLL, hbr⟩ := hrel
        by_cases h0 : 0 < k
        · obtain ⟨j, rfl⟩ : ∃ j, k = j + 1 := ⟨k - 1, by omega⟩
          have i2 : (0 : Int) ≤ (j : Int) := by omega
          have i3 : (0 : Int) < (j : Int) + 1 := by omega
          cases hc : cansw L (j : Int)
          · have HE := Lib.hid (HK.out.symm.trans (lift1_no hc))
            go_wp2_with fail
            refine (specCS_r HF.out hc).mono ?_
            rintro e w6 ⟨rfl, hb6⟩
            have hw6 := hbr.trans (hb6.mono hbr.size)
            have HF6 := Lib.hid (HF.out.below hb6)
            clear hb6
            go_wp2
            go_ret2
            refine ⟨u6, by rw [← HQ.out, HL.out, HE.out]; simp, ?_, hw6⟩
            rw [← HR.out, HL.out, HE.out]
            exact HF6.out
          · have HE := Lib.hid ((lift1_yes hc).symm.trans HK.out)
            go_wp2_with fail
            refine (specCS_r HF.out hc).mono ?_
            rintro e w6 ⟨rfl, hb6⟩
            have hw6 := hbr.trans (hb6.mono hbr.size)
            have HF6 := Lib.hid (HF.out.below hb6)
            clear hb6
            go_wp2_with fail
            refine (specSwapFlats_e HF6.out (fvalid_ftN HVL.out) (swfl_yes hc) hc).mono ?_
            rintro e w7 ⟨v7, rfl, ho7, hb7⟩
            have hw7 := hw6.trans (hb7.mono hw6.size)
            have HF7 := Lib.hid (ho7.mono (Nat.zero_le _))
            have HV7 := Lib.hid (show fvalid (swapAt L j) = true from fvalid_sub HVL.out (by rw [swapAt_len]; exact Nat.le_refl _) (fun g hg => swapAt_mem hg))
            clear hb7 ho7
            go_wp2
            go_roundw
            case rel => exact ⟨j, swapAt L j, by omega, by go_num, HF7, HE, HV7, Lib.hid (by rw [swapAt_len]; exact HLL.out), hw7⟩
            case measure => simp [intOf]
        · obtain rfl : k = 0 := by omega
          have HE := Lib.hid (show lift1 k0 fs = (L, 0) from HK.out.symm)
          go_wp2
          go_ret2
          refine ⟨u6, by rw [← HQ.out, HL.out, HE.out]; simp, ?_, hbr⟩
          rw [← HR.out, HL.out, HE.out]
          exact HF.out
/-- Numbers of rules as numbers. -/
def ints (o : List Nat) : List Int := List.map (fun i : Nat => (i : Int)) o
theorem ints_len (o : List Nat) : (ints o).length = o.length := by simp [ints]
theorem ints_get {o : List Nat} {k i : Nat} (h : o[k]? = some i) : (ints o)[k]? = some (i : Int) := by simp [ints, h]
theorem ints_set (o : List Nat) (k i : Nat) : (ints o).set k (i : Int) = ints (o.set k i) := by simp [ints, List.map_set]
set_option maxHeartbeats 1000000 in
theorem inOrder_e (n : Nat) (hn : n ≤ 1000) (w : World) :
    Calls Tryd.prog 36 #[.int .i64 (n : Int)] w fun e w' => ∃ v', e = .returned v' ∧ OwnIn w.heap.size w' v' (ints (List.range n)) ∧ Below w.heap.size w w' := by
  obtain ⟨i0, hi, hz0, hz1, hz2⟩ := info_parts infoInt
  go_enter Tryd.func36, Tryd.ntmps36
  go_wp2_with (at_make; refine wpList_make_full _ rfl _ _ 39 rfl w.heap.size 3 i0 _ 1 Tryd.underlying39 hi hz0 hz1 _ _ _ _ n rfl rfl rfl rfl ?b1 ?b2 ?b3 ?_)
  case b1 => rw [hz2]; omega
  case b2 => simp only [maxLen]; omega
  case b3 => omega
  intro w2 hown2 hgrow2
  have hb2 : Below w.heap.size w w2 := (Below.refl _ _).grown hgrow2 (Nat.le_refl _) (fun k hk => by cases hk)
  have HO2 := Lib.hid (show OwnIn w.heap.size w2 (.slice (some ⟨w.heap.size, 0, none⟩) n n) (ints (List.range 0) ++ List.replicate (n - 0) (0 : Int)) by
    have : OwnIn w.heap.size w2 (.slice (some ⟨w.heap.size, 0, none⟩) n n) (List.replicate n (0 : Int)) := by
      unfold OwnIn OwnSl
      rw [List.length_replicate, ← madeFlat (sz := 1) (enc := encI) (fun _ => rfl) (by omega) (.int .i64 0) (0 : Int) rfl, Nat.mul_one]
      exact hown2
    simpa [ints] using this)
  clear hown2 hgrow2
  go_wp2_with fail
  go_loopw [4, 9] (fun _ i wr => ∃ k : Nat, k ≤ n ∧ i = .int .i64 k ∧ Hid (OwnIn w.heap.size wr (.slice (some ⟨w.heap.size, 0, none⟩) n n) (ints (List.range k) ++ List.replicate (n - k) (0 : Int))) ∧ Below w.heap.size w wr) (fun _ i _ => n - (intOf i).toNat)
  case atStart => exact ⟨0, by omega, rfl, HO2, hb2⟩
  case round =>
    obtain ⟨k, hk, rfl, HO, hbr⟩ := hrel
    by_cases hlt : k < n
    · have i1 : (k : Int) < (n : Int) := by omega
      have i2 : (0 : Int) ≤ (k : Int) := by omega
      have hl : (ints (List.range k) ++ List.replicate (n - k) (0 : Int)).length = n := by simp [ints]; omega
      obtain ⟨hst, hgr⟩ := OwnSl.store (sz := 1) (enc := encI) (fun _ => rfl) hl.symm HO.out (k := k) (by rw [hl]; exact hlt) (k : Int)
      have hs1 : (ints (List.range k) ++ List.replicate (n - k) (0 : Int)).set k (k : Int) = ints (List.range (k + 1)) ++ List.replicate (n - (k + 1)) (0 : Int) := by
        rw [set_rep (ints (List.range k)) n k 0 (k : Int) (by simp [ints]) hlt]
        simp [ints, List.range_succ]
      rw [hs1] at hst
      have hcz := OwnSl.cell (sz := 1) (enc := encI) (fun _ => rfl) HO.out (k := k) (y := (0 : Int)) (by rw [List.getElem?_append_right (by simp [ints]), List.getElem?_replicate, if_pos (by simp [ints]; omega)])
      have d0 := hcz 0 _ rfl
      have hfz : ∀ j, wr.frozen? ⟨w.heap.size, j, none⟩ = false := OwnSl.frz HO.out
      simp only [Nat.add_zero, Nat.mul_one, wSet] at d0 hst hgr
      have hB := hbr.grown hgr hbr.size (fun z hz => by cases hz; exact Nat.le_refl _)
      have HST := Lib.hid hst
      have HB := Lib.hid hB
      clear hcz hst hgr hB hs1 hl
      go_wp2
      go_roundw
      case rel => exact ⟨k + 1, by omega, by go_num, HST, HB.out⟩
      case measure => simp [intOf]; omega
    · have hkn : k = n := by omega
      subst hkn
      go_wp2
      go_ret
      refine ⟨_, rfl, ?_, hbr⟩
      have := HO.out
      rwa [Nat.sub_self, List.replicate_zero, List.append_nil] at this
set_option maxHeartbeats 2000000 in
set_option maxRecDepth 100000 in
theorem arrange_e {lo : Nat} {fs : List Ft} {o : List Nat} {v u : Value} {w : World} (hs : Ifs lo w v fs) (hu : Ins w u (ints o)) (hb : ∀ i ∈ o, i < fs.length) (hl : fs.length ≤ 1000) (ho : o.length = fs.length) :
    Calls Tryd.prog 37 #[v, u] w fun e w' => ∃ v', e = .returned v' ∧ Ifs 0 w' v' (arr fs o) ∧ Below w.heap.size w w' := by
  obtain ⟨a, cap, rfl, hlc, hcm⟩ := hs.form
  obtain ⟨a', cap', rfl, hlc', hcm', -⟩ := id hu
  rw [ints_len, ho] at hu hlc' ⊢
  unfold maxLen at hcm hcm'
  generalize hn : fs.length = n at *
  have HN := Lib.hid hn
  have HS := Lib.hid hs
  have HU := Lib.hid hu
  have HBD := Lib.hid hb
  have HOL := Lib.hid ho
  obtain ⟨i0, hi, hy0, hy1, hy2⟩ := info_parts infoFl
  clear hn hs hu hb ho
  go_enter Tryd.func37, Tryd.ntmps37
  go_wp2_with (at_make; refine wpList_make_own _ rfl _ _ 44 rfl w.heap.size 52 i0 _ 5 Tryd.underlying44 hi hy0 hy1 _ _ _ n rfl rfl rfl ?b1 ?b2 ?b3 ?_)
  case b1 => rw [hy2]; omega
  case b2 => simp only [maxLen]; omega
  case b3 => omega
  intro w1 hown1 hgrow1
  have hb1 : Below w.heap.size w w1 := (Below.refl _ _).grown hgrow1 (Nat.le_refl _) (fun k hk => by cases hk)
  have HO1 := Lib.hid (show OwnSl w.heap.size 52 5 R5.enc w1 (.slice (some ⟨w.heap.size, 0, none⟩) 0 n) ([] : List R5) by simpa [OwnSl] using hown1)
  clear hown1 hgrow1
  go_wp2_with fail
  go_loopw [5, 7, 13] (fun q _ i wr => ∃ (k : Nat) (rs : List R5), k ≤ n ∧ i = .int .i64 k ∧ Hid (OwnSl w.heap.size 52 5 R5.enc wr q rs) ∧ Hid (All2 (R5.ok lo w) rs (arr fs (o.take k))) ∧ Below w.heap.size w wr) (fun _ _ i _ => n - (intOf i).toNat)
  case atStart => exact ⟨0, [], by omega, rfl, HO1, Lib.hid All2.nil, hb1⟩
  case round =>
    obtain ⟨k, rs, hk, rfl, HO, HR, hbr⟩ := hrel
    have hzr := hbr.size
    by_cases hlt : k < n
    · have i1 : (k : Int) < (n : Int) := by omega
      have i2 : (0 : Int) ≤ (k : Int) := by omega
      obtain ⟨x, hx⟩ : ∃ x, o[k]? = some x := ⟨_, List.getElem?_eq_getElem (by rw [HOL.out]; exact hlt)⟩
      have hxn : x < n := HBD.out x (List.mem_of_getElem? hx)
      obtain ⟨b, oo, y, rfl, hbl, hy, d0⟩ := (HU.out.below hbr).at (show k < (ints o).length by rw [ints_len, HOL.out]; exact hlt)
      rw [ints_get hx] at hy
      cases hy
      obtain ⟨f, hf⟩ : ∃ f, fs[x]? = some f := ⟨_, List.getElem?_eq_getElem (by rw [HN.out]; exact hxn)⟩
      obtain ⟨b', o', v0, v1, v2, v3, rfl, hbl', c0, c1, c2, c3, c4, hss⟩ := HS.out.at hf
      obtain ⟨a0, n0, p0, a1, n1, p1, a2, n2, p2, a3, n3, p3, rfl, rfl, rfl, rfl⟩ := sl4_form hss
      replace c0 := (hbr.cell (p := ⟨b', o' + x * 5, none⟩) hbl').trans c0
      replace c1 := (hbr.cell (p := ⟨b', o' + x * 5 + 1, none⟩) hbl').trans c1
      replace c2 := (hbr.cell (p := ⟨b', o' + x * 5 + 2, none⟩) hbl').trans c2
      replace c3 := (hbr.cell (p := ⟨b', o' + x * 5 + 3, none⟩) hbl').trans c3
      replace c4 := (hbr.cell (p := ⟨b', o' + x * 5 + 4, none⟩) hbl').trans c4
      obtain ⟨p, hp⟩ : ∃ p, f.acc = p := ⟨_, rfl⟩
      rw [hp] at c4
      have HOK := Lib.hid (show R5.ok lo w ⟨.slice a0 n0 p0, .slice a1 n1 p1, .slice a2 n2 p2, .slice a3 n3 p3, p⟩ f from ⟨hss, hp.symm⟩)
      have HAR := Lib.hid (show arr fs (o.take (k + 1)) = arr fs (o.take k) ++ [f] by
        rw [List.take_add_one, hx]
        unfold arr
        rw [List.filterMap_append]
        simp [hf])
      have HBD2 := Lib.hid (show rs.length ≤ 1000 by
        rw [HR.out.1, arr_len (fun i hi => by rw [HN.out]; exact HBD.out i (List.mem_of_mem_take hi)), List.length_take]; omega)
      have x1 : (x : Int) < (n : Int) := by omega
      have x2 : (0 : Int) ≤ (x : Int) := by omega
      clear hss hp hx hf
      go_wp2_with (at_builtin; refine wpList_append_own _ rfl _ _ 44 rfl w.heap.size 52 i0 _ 5 104 Tryd.underlying44 hi hy0 hy1 hy2 rfl (by decide) _ _ _ rfl (World.ownsRow.alloc HO.out _) ⟨wr.heap.size, 0, none⟩ 1 1 (R5.enc ⟨.slice a0 n0 p0, .slice a1 n1 p1, .slice a2 n2 p2, .slice a3 n3 p3, p⟩) rfl rfl ?c1 ?c2 ?c3 ?c4 ?c5 ?_)
      case c1 => exact cellsNew wr (R5.enc ⟨.slice a0 n0 p0, .slice a1 n1 p1, .slice a2 n2 p2, .slice a3 n3 p3, p⟩) _
      case c2 => simp [Value.oneCell']
      case c3 => have := HBD2.out; simp only [maxLen]; omega
      case c4 => have := HBD2.out; omega
      case c5 => simp; omega
      intro v' w4 hown4 hgrow4 _
      have hB := belGrown (hbr.alloc (by omega) _) (World.ownsRow.alloc HO.out _) hgrow4 (by simp; omega)
      have HO4 := Lib.hid (OwnSl.pushed rfl hown4)
      clear hown4 hgrow4
      go_wp2
      go_roundw
      case rel => exact ⟨k + 1, _, by omega, by go_num, HO4, Lib.hid (by rw [HAR.out]; exact All2.snoc HR.out HOK.out), hB⟩
      case measure => simp [intOf]; omega
    · have hkn : k = n := by omega
      go_wp2
      go_ret
      have hR := HR.out
      rw [List.take_of_length_le (by rw [HOL.out]; omega)] at hR
      exact ⟨u5, rfl, ⟨rs, (OwnSl.fr (sz := 5) (enc := R5.enc) (fun _ => rfl) HO.out).mono (Nat.zero_le _), hR.mono (fun _ _ h => ⟨h.1.mono (fun _ _ g => (g.mono (Nat.zero_le _)).below hbr), h.2⟩)⟩, hbr⟩
theorem tieSt_get {fs : List Ft} {r c : Nat} (hr : r < fs.length) (hc : c < fs.length) : ∃ row, (tieSt fs fs.length fs.length)[r]? = some row ∧ row[c]? = some (tieM fs r c) ∧ row.length = fs.length := by
  obtain ⟨m, hm⟩ : ∃ m, fs.length = m + 1 := ⟨fs.length - 1, by omega⟩
  have : tieSt fs fs.length fs.length = ties fs := by
    rw [← tieAll_done hm]
    conv => lhs; arg 3; rw [hm]
    rfl
  rw [this]
  exact ⟨_, ties_get hr, tieM_at hc, by simp⟩
/-- What the graph's cells hold. -/
theorem ties_read {fs : List Ft} {w : World} {lo hi G : Nat} {vs : List Value} (h : TiV w lo hi G fs.length vs (tieSt fs fs.length fs.length)) {r c : Nat} (hr : r < fs.length) (hc : c < fs.length) :
    ∃ g cap, g < w.heap.size ∧ w.cell? ⟨G, r, none⟩ = some (.slice (some ⟨g, 0, none⟩) fs.length cap) ∧ w.cell? ⟨g, c, none⟩ = some (.bool (tieM fs r c)) := by
  obtain ⟨row, h1, h2, h3⟩ := tieSt_get hr hc
  obtain ⟨x, hx⟩ : ∃ x, vs[r]? = some x := ⟨_, List.getElem?_eq_getElem (by have := h.2.2.2.len; rw [this]; exact (List.getElem?_eq_some_iff.1 h1).1)⟩
  obtain ⟨g, cap, rfl, hg, -, e0, e1, -, -⟩ := TiV.store h hx h1 h2
  rw [h3] at e0
  exact ⟨g, cap, hg, e0, e1⟩
set_option maxHeartbeats 20000000 in
set_option maxRecDepth 100000 in
theorem implLiftFlat_e {lo : Nat} {fs R : List Ft} {v : Value} {n q : Int} {w : World} (hs : Fts lo w v fs) (ht : Tab w) (h : (lift fs n).1 = R) (hq : (lift fs n).2 = q) :
    Calls Tryd.prog 15 #[v, .int .i64 n] w fun e w' => ∃ v', e = .returned (.tuple #[v', .int .i64 q]) ∧ GFs w' w.heap.size w'.heap.size v' R ∧ Below w.heap.size w w' := by
  obtain ⟨a, cap, rfl, hlc, hcm⟩ := hs.form
  unfold maxLen at hcm
  obtain ⟨m, hm⟩ : ∃ m, fs.length = m := ⟨_, rfl⟩
  rw [hm] at hs hlc ⊢
  have HM := Lib.hid hm
  have HR := Lib.hid h
  have HQ := Lib.hid hq
  clear hm
  cases hv : fvalid fs
  · have hqf : q = -1 := by rw [← HQ.out, lift, hv]; rfl
    subst hqf
    go_enter Tryd.func15, Tryd.ntmps15
    go_wp2_with fail
    refine (implFV_b hs ht hv).mono ?_
    rintro e w1 ⟨rfl, hb1⟩
    go_wp2
    go_ret2
    refine ⟨_, rfl, ?_, hb1⟩
    rw [← HR.out, lift, hv]
    exact OwnG.nil (OwnSl.nil _ _ _ _ _) (fun z hz => by cases hz) hb1.size
  · have HV := Lib.hid hv
    have HRV := Lib.hid (show fvalid R = true by rw [← h]; exact lift_valid fs n)
    have hm60 : m ≤ 60 := by rw [← HM.out]; exact fvalid_60 hv
    clear h hq
    by_cases hin : 0 ≤ n ∧ n < m
    · obtain ⟨hn0, hn1⟩ := hin
      obtain ⟨k0, rfl⟩ : ∃ k : Nat, n = k := ⟨n.toNat, by omega⟩
      have HL := Lib.hid (show lift fs (k0 : Int) = ((lift1 k0 fs).1, ((lift1 k0 fs).2 : Int)) by
        rw [lift, HV.out, HM.out, show inB (k0 : Int) 0 ((m : Int) - 1) = true from inB_iff.2 ⟨by omega, by omega⟩]; rfl)
      have j1 : ¬ (k0 : Int) < 0 := by omega
      have j1d : decide ((k0 : Int) < 0) = false := decide_eq_false j1
      have j2 : ¬ (m : Int) ≤ (k0 : Int) := by omega
      have j2d : decide ((m : Int) ≤ (k0 : Int)) = false := decide_eq_false j2
      go_enter Tryd.func15, Tryd.ntmps15
      go_wp2_with fail
      refine (implFV_b hs ht hv).mono ?_
      rintro e w1 ⟨rfl, hb1⟩
      have hs1 := hs.below hb1
      clear hv
      go_wp2_with fail
      refine (flatsOf_any fs _ _ hs1 (fvalid_four HV.out) (fvalid_len HV.out)).mono ?_
      rintro e w2 ⟨v2, rfl, ho2, hb2⟩
      have hw2 := hb1.trans (hb2.mono hb1.size)
      have HF2 := Lib.hid ho2
      obtain ⟨a2, cap2, rfl, hlc2, hcm2⟩ := ho2.form
      clear hb2 hb1 ho2
      go_wp2_with fail
      refine (tiesOf_any fs _ _ HF2.out (fun k f hf => fvalid_at HV.out hf) (by rw [HM.out]; omega)).mono ?_
      rintro e w3 ⟨vs3, rfl, ho3, hb3⟩
      have hw3 := hw2.trans (hb3.mono hw2.size)
      have HT3 := Lib.hid ho3
      have HF3 := Lib.hid (show Ifs 0 w3 (.slice a2 m cap2) fs by have := HF2.out.below hb3; rw [HM.out] at this; exact this)
      have HHH := Lib.hid (show True from trivial)
      obtain ⟨G, hG⟩ : ∃ G, w2.heap.size = G := ⟨_, rfl⟩
      rw [hG] at ho3 ⊢
      have HT := Lib.hid ho3
      have hGs := (OwnV.lt ho3).2.2
      rw [HM.out] at hlc2 ⊢
      clear hb3 ho3 HT3 HHH
      go_wp2_with fail
      refine (inOrder_e m (by omega) _).mono ?_
      rintro e w4 ⟨v4, rfl, ho4, hb4⟩
      have hw4 := hw3.trans (hb4.mono hw3.size)
      have HO4 := Lib.hid ho4
      rcases OwnSl.form ho4 with ⟨_, h0⟩ | ⟨g5, cap5, hv5, hg1, hg2, hg3, hg4, hg5⟩
      · simp [ints] at h0; omega
      rw [ints_len, List.length_range] at hv5 hg3
      subst hv5
      have HW3 := Lib.hid hw3
      clear ho4 hg5
      go_wp2_with fail
      go_loopw [9] (fun i wr => ∃ (k : Nat) (o : List Nat), k ≤ k0 ∧ i = .int .i64 k ∧ Hid (OwnIn w3.heap.size wr (.slice (some ⟨g5, 0, none⟩) m cap5) (ints o)) ∧ Hid (∀ i ∈ o, i < m) ∧ Hid (o.length = m) ∧ Hid (lift1 k (arr fs o) = lift1 k0 fs) ∧ Below w3.heap.size w3 wr) (fun i _ => (intOf i).toNat)
      case atStart => exact ⟨k0, List.range m, Nat.le_refl _, rfl, HO4, Lib.hid (fun i hi => List.mem_range.1 hi), Lib.hid List.length_range, Lib.hid (by rw [← HM.out, arr_range]), hb4⟩
      case round =>
        obtain ⟨k, o, hk, rfl, HO, HBD, HOL, HK, hbr⟩ := hrel
        have hzr := hbr.size
        have hwr : Below w.heap.size w wr := HW3.out.trans (hbr.mono HW3.out.size)
        have hg5r : g5 < wr.heap.size := (World.ownsRow.lt HO.out g5 rfl).2
        by_cases h0 : 0 < k
        · obtain ⟨j, rfl⟩ : ∃ j, k = j + 1 := ⟨k - 1, by omega⟩
          have i2 : (0 : Int) ≤ (j : Int) := by omega
          have i3 : (0 : Int) < (j : Int) + 1 := by omega
          have i4 : (j : Int) < (m : Int) := by omega
          have i5 : (j : Int) + 1 < (m : Int) := by omega
          have i6 : (0 : Int) ≤ (j : Int) + 1 := by omega
          obtain ⟨x, hx⟩ : ∃ x, o[j]? = some x := ⟨_, List.getElem?_eq_getElem (by rw [HOL.out]; omega)⟩
          obtain ⟨y, hy⟩ : ∃ y, o[j + 1]? = some y := ⟨_, List.getElem?_eq_getElem (by rw [HOL.out]; omega)⟩
          have hxm : x < m := HBD.out x (List.mem_of_getElem? hx)
          have hym : y < m := HBD.out y (List.mem_of_getElem? hy)
          have x1 : (x : Int) < (m : Int) := by omega
          have x2 : (0 : Int) ≤ (x : Int) := by omega
          have y1 : (y : Int) < (m : Int) := by omega
          have y2 : (0 : Int) ≤ (y : Int) := by omega
          obtain ⟨gt, capt, hgt, t0, t1⟩ := ties_read HT.out (r := x) (c := y) (by rw [HM.out]; exact hxm) (by rw [HM.out]; exact hym)
          rw [HM.out] at t0
          obtain ⟨t, htt⟩ : ∃ t, tieM fs x y = t := ⟨_, rfl⟩
          rw [htt] at t1
          replace t0 := (hbr.cell (p := ⟨G, x, none⟩) hGs).trans t0
          replace t1 := (hbr.cell (p := ⟨gt, y, none⟩) hgt).trans t1
          have hGr : G < wr.heap.size := by omega
          have hgtr : gt < wr.heap.size := by omega
          have o0 := OwnSl.cell (sz := 1) (enc := encI) (fun _ => rfl) HO.out (ints_get hx) 0 _ rfl
          have o1 := OwnSl.cell (sz := 1) (enc := encI) (fun _ => rfl) HO.out (ints_get hy) 0 _ rfl
          simp only [Nat.add_zero, Nat.mul_one] at o0 o1
          have HCS := Lib.hid ((cansw_arr (fs := fs) HV.out (by rw [HM.out]; exact HBD.out) (by rw [HOL.out, HM.out]) hx hy).trans (by rw [htt]))
          have HXY := Lib.hid (And.intro hx hy)
          clear hx hy htt hb4 HO4
          cases t
          · have HE := Lib.hid (show lift1 j (arr fs (swapAt o j)) = lift1 k0 fs by
              rw [arr_swap (by rw [HM.out]; exact HBD.out) (by rw [HOL.out]; omega), ← lift1_yes (by rw [HCS.out]; rfl)]; exact HK.out)
            go_wp2_with fail
            refine wp_region_over (by kernel_rfl) (by kernel_rfl) (fun ov => ?_); have ov0 := fun x => ov x (G) (by (try simp) <;> omega); have ov1 := fun x => ov x (gt) (by (try simp) <;> omega); have ov2 := fun x => ov x (g5) (by (try simp) <;> omega); clear ov; (iterate 9 (iterate 8 (try go_big_quiet_step (first | fail)))); refine wpQuiet_nil ?_; intro w9 hw9; have hb_w9 := below_over hw9; clear hw9 ov0 ov1 ov2
            have HO9 := OwnSl.kept HO.out hb_w9
            have hb9 : Below w3.heap.size w3 w9 := hbr.trans (hb_w9.mono hzr)
            have e0 := (hb_w9.cell (p := ⟨g5, j, none⟩) hg5r).trans o0
            have e1 := (hb_w9.cell (p := ⟨g5, j + 1, none⟩) hg5r).trans o1
            have y9 : ∀ j, w9.frozen? ⟨g5, j, none⟩ = false := OwnSl.frz HO9
            have HO9' := Lib.hid HO9
            clear hb_w9 o0 o1 t0 t1 HO9
            have hwr1 : IntKind.i64.wrap ((j : Int) + 1 - 1) = (j : Int) := by rw [show (j : Int) + 1 - 1 = (j : Int) by omega]; exact IntWalk.i64_in _ (by omega)
            have hwr2 : IntKind.i64.wrap ((j : Int) + 1) = (j : Int) + 1 := IntWalk.i64_in _ (by omega)
            have hwr3 : IntKind.i64.wrap (j : Int) = (j : Int) := IntWalk.i64_in _ (by omega)
            have htn : ((j : Int) + 1).toNat = j + 1 := by omega
            go_wp2_with fail
            go_region_law (fail)
            all_goals
              obtain ⟨hst7, hgr7⟩ := OwnSl.store (sz := 1) (enc := encI) (fun _ => rfl) (by rw [ints_len, HOL.out]) HO9'.out (k := j) (by rw [ints_len, HOL.out]; omega) (y : Int)
              obtain ⟨hst8, hgr8⟩ := OwnSl.store (sz := 1) (enc := encI) (fun _ => rfl) (by rw [List.length_set, ints_len, HOL.out]) hst7 (k := j + 1) (by rw [List.length_set, ints_len, HOL.out]; omega) (x : Int)
              rw [ints_set, ints_set, ← swapAt_of HXY.out.1 HXY.out.2] at hst8
              have hB7 := hb9.grown hgr7 hb9.size (fun z hz => by cases hz; exact hg1)
              have hB8 := hB7.grown hgr8 hB7.size (fun z hz => by cases hz; exact hg1)
              simp only [wSet, Nat.mul_one] at hst8 hB8
              have HO10 := Lib.hid (OwnSl.kept hst8 (Below.drew (Below.refl _ _)))
              have hB9 := Below.drew hB8
              clear hst7 hst8 hgr7 hgr8 hB7 hB8
              go_wp2
              go_roundw
              case rel => exact ⟨j, swapAt o j, by omega, by go_num, HO10, Lib.hid (swapAt_bound HBD.out), Lib.hid (by rw [swapAt_len]; exact HOL.out), HE, hB9⟩
              case measure => simp [intOf]
          · have HE := Lib.hid (show lift1 k0 fs = (arr fs o, j + 1) by rw [← HK.out]; exact lift1_no (by rw [HCS.out]; rfl))
            go_wp2_with fail
            refine wp_region_over (by kernel_rfl) (by kernel_rfl) (fun ov => ?_); have ov0 := fun x => ov x (G) (by (try simp) <;> omega); have ov1 := fun x => ov x (gt) (by (try simp) <;> omega); have ov2 := fun x => ov x (g5) (by (try simp) <;> omega); clear ov; (iterate 9 (iterate 8 (try go_big_quiet_step (first | fail)))); refine wpQuiet_nil ?_; intro w9 hw9; have hb_w9 := below_over hw9; clear hw9 ov0 ov1 ov2
            have HO9 := Lib.hid (OwnSl.kept HO.out hb_w9)
            have hw39 : Below w3.heap.size w3 w9 := hbr.trans (hb_w9.mono hzr)
            have hw9 := hwr.trans (hb_w9.mono hwr.size)
            clear hb_w9 o0 o1 t0 t1
            have HFW := Lib.hid ((HF3.out.below hw39))
            have HUW := Lib.hid (OwnIn.ins HO9.out)
            go_wp2_with fail
            refine (arrange_e HFW.out HUW.out (by rw [HM.out]; exact HBD.out) (by rw [HM.out]; omega) (by rw [HOL.out, HM.out])).mono ?_
            rintro e w10 ⟨v10, rfl, ho10, hb10⟩
            have hw10 := hw9.trans (hb10.mono hw9.size)
            have HI10 := Lib.hid (show Ifs 0 w10 v10 R by rw [← HR.out, HL.out, HE.out]; exact ho10)
            clear ho10 hb10
            go_wp2_with fail
            refine (newFlats_e HI10.out HRV.out hw10).mono ?_
            rintro e w11 ⟨v11, rfl, ho11, hw11⟩
            have HO11 := Lib.hid ho11
            clear ho11
            go_wp2
            go_ret2
            exact ⟨v11, by rw [← HQ.out, HL.out, HE.out]; simp, HO11.out, hw11⟩
        · obtain rfl : k = 0 := by omega
          have HE := Lib.hid (show lift1 k0 fs = (arr fs o, 0) from HK.out.symm)
          have i0d : decide ((0 : Int) < 0) = false := rfl
          go_wp2_with fail
          refine wp_region_over (by kernel_rfl) (by kernel_rfl) (fun ov => ?_); clear ov; (iterate 9 (iterate 8 (try go_big_quiet_step (first | fail)))); refine wpQuiet_nil ?_; intro w9 hw9; have hb_w9 := below_over hw9; clear hw9 
          have HO9 := Lib.hid (OwnSl.kept HO.out hb_w9)
          have hw39 : Below w3.heap.size w3 w9 := hbr.trans (hb_w9.mono hzr)
          have hw9 := hwr.trans (hb_w9.mono hwr.size)
          clear hb_w9
          have HFW := Lib.hid ((HF3.out.below hw39))
          have HUW := Lib.hid (OwnIn.ins HO9.out)
          go_wp2_with fail
          refine (arrange_e HFW.out HUW.out (by rw [HM.out]; exact HBD.out) (by rw [HM.out]; omega) (by rw [HOL.out, HM.out])).mono ?_
          rintro e w10 ⟨v10, rfl, ho10, hb10⟩
          have hw10 := hw9.trans (hb10.mono hw9.size)
          have HI10 := Lib.hid (show Ifs 0 w10 v10 R by rw [← HR.out, HL.out, HE.out]; exact ho10)
          clear ho10 hb10
          go_wp2_with fail
          refine (newFlats_e HI10.out HRV.out hw10).mono ?_
          rintro e w11 ⟨v11, rfl, ho11, hw11⟩
          have HO11 := Lib.hid ho11
          clear ho11
          go_wp2
          go_ret2
          exact ⟨v11, by rw [← HQ.out, HL.out, HE.out]; simp, HO11.out, hw11⟩
    · have hlf : lift fs n = ([], -1) := by
        rw [lift, HM.out, show inB n 0 ((m : Int) - 1) = false from by rw [← Bool.not_eq_true, inB_iff]; omega, Bool.and_false]; rfl
      have hqf : q = -1 := by rw [← HQ.out, hlf]
      subst hqf
      have HRN := Lib.hid (show R = [] by rw [← HR.out, hlf])
      by_cases h0 : n < 0
      · clear hin
        go_enter Tryd.func15, Tryd.ntmps15
        go_wp2_with fail
        refine (implFV_b hs ht hv).mono ?_
        rintro e w1 ⟨rfl, hb1⟩
        go_wp2
        go_ret2
        refine ⟨_, rfl, ?_, hb1⟩
        rw [HRN.out]
        exact OwnG.nil (OwnSl.nil _ _ _ _ _) (fun z hz => by cases hz) hb1.size
      · have h1 : (m : Int) ≤ n := by omega
        have h0d : decide (n < 0) = false := decide_eq_false h0
        clear hin
        go_enter Tryd.func15, Tryd.ntmps15
        go_wp2_with fail
        refine (implFV_b hs ht hv).mono ?_
        rintro e w1 ⟨rfl, hb1⟩
        go_wp2
        go_ret2
        refine ⟨_, rfl, ?_, hb1⟩
        rw [HRN.out]
        exact OwnG.nil (OwnSl.nil _ _ _ _ _) (fun z hz => by cases hz) hb1.size
end Go.Proofs.YthflbpoogolebaaDoor
