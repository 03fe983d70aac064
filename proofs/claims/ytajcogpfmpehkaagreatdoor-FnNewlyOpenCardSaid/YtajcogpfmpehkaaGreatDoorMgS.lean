/- MergeFlats: the reference's walk, and the program's. -/
import Derived.Test.YtajcogpfmpehkaaGreatDoorMgFD
import Derived.Test.YtajcogpfmpehkaaGreatDoorOneP
import Derived.Test.YtajcogpfmpehkaaGreatDoorMbW
import Derived.Test.YtajcogpfmpehkaaGreatDoorFtW
import Derived.Test.YtajcogpfmpehkaaGreatDoorRgX
import Derived.Test.YtajcogpfmpehkaaGreatDoorCuW
import Derived.Test.YtajcogpfmpehkaaGreatDoorLvS
namespace Go.Proofs.YtajcogpfmpehkaaGreatDoor
open Go.RowKit
/-- Where the first pair lies. -/
def mpos (fs : List Ft) : Int := match mfirst fs with
  | some k => (k : Int)
  | none => -1
theorem mrgAt_no {fs : List Ft} {k : Nat} {f g : Ft} (hf : fs[k]? = some f) (hg : fs[k + 1]? = some g) (h : f.acc ≠ g.acc ∨ mergeB f.box g.box = none) : mrgAt fs k = none := by
  rw [mrgAt_of hf hg]
  unfold mrg
  rcases h with h | h
  · rw [if_neg h]
  · rw [h]; split <;> rfl
set_option maxHeartbeats 4000000 in
set_option maxRecDepth 100000 in
theorem l15Pair_any {lo : Nat} (fs : List Ft) (v : Value) (w : World) (hs : Fts lo w v fs) (hv : ∀ (k : Nat) f, fs[k]? = some f → bvalid f.box = true) (hl : fs.length ≤ 1000000) :
    Calls Tryz.prog 95 #[v] w fun e w' => ∃ (za : Option Addr) (zn zc : Nat) (x : Ft), e = .returned (.tuple #[.int .i64 (mpos fs), .agg #[.slice za zn zc, .bool x.acc]]) ∧ (∀ k, mfirst fs = some k → mrgAt fs k = some x ∧ Rws 0 w' (.slice za zn zc) x.box) ∧ Below w.heap.size w w' := by
  obtain ⟨a, cap, rfl, hlc, hcm⟩ := hs.form
  unfold maxLen at hcm
  generalize hn : fs.length = n at *
  have HN := Lib.hid hn
  have HV := Lib.hid hv
  obtain ⟨W, hW⟩ : ∃ W, w.alloc (.cells #[.slice none 0 0, .bool false] 81) = W := ⟨_, rfl⟩
  have hal : Below w.heap.size w W := by rw [← hW]; exact (Below.refl _ _).alloc (Nat.le_refl _) _
  have b0 : W.cell? ⟨w.heap.size, 0, none⟩ = some (.slice none 0 0) := by rw [← hW]; simp
  have b1 : W.cell? ⟨w.heap.size, 1, none⟩ = some (.bool false) := by rw [← hW]; simp
  have bf : ∀ j, W.frozen? ⟨w.heap.size, j, none⟩ = false := by rw [← hW]; exact fun j => frz_new w _ _ j
  have qs : W.heap.size = w.heap.size + 1 := by rw [← hW]; simp
  have HS := Lib.hid (hs.below hal)
  clear hn hs hv
  go_enter Tryz.func95, Tryz.ntmps95
  go_wp2_with fail
  go_loopw [4, 5, 6] (fun i _ _ wr => ∃ k : Nat, k ≤ n ∧ i = .int .i64 k ∧ Hid (∀ j, j < k → mrgAt fs j = none) ∧ Below W.heap.size W wr) (fun i _ _ _ => n - (intOf i).toNat)
  case atStart => exact ⟨0, by omega, rfl, Lib.hid (fun j h => by omega), Below.refl _ _⟩
  case round =>
    clear hW
    obtain ⟨k, hk, rfl, HK, hbr⟩ := hrel
    have hzr := hbr.size
    have hwr := hal.trans (hbr.mono hal.size)
    have r0 := (hbr.cell (p := ⟨w.heap.size, 0, none⟩) (by simp only; omega)).trans b0
    have r1 := (hbr.cell (p := ⟨w.heap.size, 1, none⟩) (by simp only; omega)).trans b1
    have rf := fun j => (hbr.frozen (p := ⟨w.heap.size, j, none⟩) (by simp only; omega)).trans (bf j)
    have rf0 := rf 0
    have rf1 := rf 1
    by_cases hlt : k + 1 < n
    · have i1 : (k : Int) + 1 < (n : Int) := by omega
      have i2 : (0 : Int) ≤ (k : Int) := by omega
      have i3 : (k : Int) < (n : Int) := by omega
      have i4 : (0 : Int) ≤ (k : Int) + 1 := by omega
      have i5 : ((k : Int) + 1).toNat = k + 1 := by omega
      have i6 : IntKind.i64.wrap ((k : Int) + 1) = (k : Int) + 1 := IntWalk.i64_in _ (by omega)
      obtain ⟨f, hf⟩ : ∃ f, fs[k]? = some f := ⟨_, List.getElem?_eq_getElem (by rw [HN.out]; omega)⟩
      obtain ⟨g, hg⟩ : ∃ g, fs[k + 1]? = some g := ⟨_, List.getElem?_eq_getElem (by rw [HN.out]; omega)⟩
      obtain ⟨b, o, sv, rfl, hbl, c0, c1, hsv⟩ := (HS.out.below hbr).at hf
      obtain ⟨b', o', tv, hbo, hbl', d0, d1, htv⟩ := (HS.out.below hbr).at hg
      cases hbo
      obtain ⟨R, hR⟩ : ∃ R, mergeV f.box g.box = R := ⟨_, rfl⟩
      have HR := Lib.hid hR
      have HMB := Lib.hid ((mergeV_yes (HV.out k f hf) (HV.out (k + 1) g hg)).symm.trans hR)
      have HLN := Lib.hid (show R.getD [] = [] ∨ 2 ≤ (R.getD []).length by
        cases R with
        | none => exact .inl rfl
        | some c => exact .inr (by have := (bvalid_four (mergeV_valid hR)).1; simp only [Option.getD_some]; omega))
      have HF := Lib.hid hf
      have HG := Lib.hid hg
      have HSF := Lib.hid hsv
      have HSG := Lib.hid htv
      clear hf hg hsv htv hR hbl'
      go_wp2_with fail
      obtain ⟨P0, hP0⟩ : ∃ P0, w.heap.size = P0 := ⟨_, rfl⟩
      refine wp_region_turn2 (W := wr) 16 [BIs (.slice (some ⟨b, o, none⟩) n cap), BIs (.int .i64 (k : Int)), BIs (.pointer (some ⟨b, o + k * 2, none⟩)), BIs (.pointer (some ⟨b, o + k * 2, none⟩)), BIs (.agg #[sv]), BIs (.slice (some ⟨b, o, none⟩) n cap), BIs (.int .i64 (k : Int)), BIs (.int .i64 ((k : Int) + 1)), BIs (.pointer (some ⟨b, o + (k + 1) * 2, none⟩)), BIs (.pointer (some ⟨b, o + (k + 1) * 2, none⟩)), BIs (.agg #[tv]), (fun w v => ∃ z, v = .tuple #[.agg #[z], .bool R.isSome] ∧ RwV (fun k => k = P0) w z (R.getD [])), (fun w v => ∃ z, v = .tuple #[.agg #[z], .bool R.isSome] ∧ RwV (fun k => k = P0) w z (R.getD [])), (fun w v => ∃ z, v = .agg #[z] ∧ RwV (fun k => k = P0) w z (R.getD [])), BIs (.bool R.isSome), (BP wr)] (bof [BIs (.slice (some ⟨b, o, none⟩) n cap), BIs (.int .i64 (k : Int)), BIs (.pointer (some ⟨b, o + k * 2, none⟩)), BIs (.pointer (some ⟨b, o + k * 2, none⟩)), BIs (.agg #[sv]), BIs (.slice (some ⟨b, o, none⟩) n cap), BIs (.int .i64 (k : Int)), BIs (.int .i64 ((k : Int) + 1)), BIs (.pointer (some ⟨b, o + (k + 1) * 2, none⟩)), BIs (.pointer (some ⟨b, o + (k + 1) * 2, none⟩)), BIs (.agg #[tv]), (fun _ v => ∃ z, v = .tuple #[z, .bool R.isSome] ∧ True), (fun _ v => ∃ z, v = .tuple #[z, .bool R.isSome] ∧ True), (fun _ _ => True), BIs (.bool R.isSome), (BQV (fun k => k = P0) (R.getD []) wr), (fun _ _ => True), BIs (.bool R.isSome)]) (by kernel_rfl) (by decide) (fun u => by simp only [frU, Act.put, List.setIfInBounds_toArray, List.set_cons_succ, List.set_cons_zero, Nat.zero_add, Nat.reduceAdd]; exact rfl) (by kernel_rfl) ⟨bst_is _, bst_is _, bst_is _, bst_is _, bst_is _, bst_is _, bst_is _, bst_is _, bst_is _, bst_is _, bst_is _, (fun _ _ _ hb ⟨z, h1, h2⟩ => ⟨z, h1, h2.below hb⟩), (fun _ _ _ hb ⟨z, h1, h2⟩ => ⟨z, h1, h2.below hb⟩), (fun _ _ _ hb ⟨z, h1, h2⟩ => ⟨z, h1, h2.below hb⟩), bst_is _, (bst_bp _), trivial⟩ ?_ ?_; (exact ⟨stT rfl (by decide) (by kernel_rfl) (fun u w3 hC hd hI Q K hK => by (go_step; exact hK _ _ rfl (Below.refl _ _) rfl)), stT rfl (by decide) (by kernel_rfl) (fun u w3 hC hd hI Q K hK => by (go_step; exact hK _ _ rfl (Below.refl _ _) rfl)), stT rfl (by decide) (by kernel_rfl) (fun u w3 hC hd hI Q K hK => by (have hu := bis (w := w3) (hd 0 rfl); rw [hu] at hK ⊢; clear hu; have hu := bis (w := w3) (hd 1 rfl); rw [hu] at hK ⊢; clear hu; go_step; exact hK _ _ rfl (Below.refl _ _) rfl)), stT rfl (by decide) (by kernel_rfl) (fun u w3 hC hd hI Q K hK => by (have hu := bis (w := w3) (hd 2 rfl); rw [hu] at hK ⊢; clear hu; go_step; exact hK _ _ rfl (Below.refl _ _) rfl)), stT rfl (by decide) (by kernel_rfl) (fun u w3 hC hd hI Q K hK => by (have hu := bis (w := w3) (hd 3 rfl); rw [hu] at hK ⊢; clear hu; have z0 := (hC.cell (p := ⟨b, o + k * 2, none⟩) hbl).trans c0; go_step; exact hK _ _ rfl (Below.refl _ _) rfl)), stT rfl (by decide) (by kernel_rfl) (fun u w3 hC hd hI Q K hK => by (go_step; exact hK _ _ rfl (Below.refl _ _) rfl)), stT rfl (by decide) (by kernel_rfl) (fun u w3 hC hd hI Q K hK => by (go_step; exact hK _ _ rfl (Below.refl _ _) rfl)), stT rfl (by decide) (by kernel_rfl) (fun u w3 hC hd hI Q K hK => by (have hu := bis (w := w3) (hd 6 rfl); rw [hu] at hK ⊢; clear hu; go_step; exact hK _ _ rfl (Below.refl _ _) rfl)), stT rfl (by decide) (by kernel_rfl) (fun u w3 hC hd hI Q K hK => by (have hu := bis (w := w3) (hd 5 rfl); rw [hu] at hK ⊢; clear hu; have hu := bis (w := w3) (hd 7 rfl); rw [hu] at hK ⊢; clear hu; go_step; exact hK _ _ rfl (Below.refl _ _) rfl)), stT rfl (by decide) (by kernel_rfl) (fun u w3 hC hd hI Q K hK => by (have hu := bis (w := w3) (hd 8 rfl); rw [hu] at hK ⊢; clear hu; go_step; exact hK _ _ rfl (Below.refl _ _) rfl)), stT rfl (by decide) (by kernel_rfl) (fun u w3 hC hd hI Q K hK => by (have hu := bis (w := w3) (hd 9 rfl); rw [hu] at hK ⊢; clear hu; have z0 := (hC.cell (p := ⟨b, o + (k + 1) * 2, none⟩) hbl).trans d0; go_step; exact hK _ _ rfl (Below.refl _ _) rfl)), stT rfl (by decide) (by kernel_rfl) (fun u w3 hC hd hI Q K hK => by (have hu := bis (w := w3) (hd 4 rfl); rw [hu] at hK ⊢; clear hu; have hu := bis (w := w3) (hd 10 rfl); rw [hu] at hK ⊢; clear hu; go_step; refine (specMB_v (HSF.out.below hC) (HSG.out.below hC) HR.out).mono ?_; rintro e w4 ⟨z4, rfl, ho4, hb4⟩; exact hK _ _ rfl hb4 ⟨z4, rfl, ho4.sub (fun k hk => by subst hk; have := hC.size; omega)⟩)), stT rfl (by decide) (by kernel_rfl) (fun u w3 hC hd hI Q K hK => by (obtain ⟨z, hu, hz⟩ := hd 11 rfl; rw [hu] at hK ⊢; clear hu; go_step; exact hK _ _ rfl (Below.refl _ _) ⟨z, rfl, hz⟩)), stT rfl (by decide) (by kernel_rfl) (fun u w3 hC hd hI Q K hK => by (obtain ⟨z, hu, hz⟩ := hd 12 rfl; rw [hu] at hK ⊢; clear hu; go_step; exact hK _ _ rfl (Below.refl _ _) ⟨z, rfl, hz⟩)), stTf rfl (by decide) (fun u w3 hC hd Q K hK => by (obtain ⟨z, hu, hz⟩ := hd 12 rfl; rw [hu] at hK ⊢; clear hu; go_step; exact hK _ _ rfl (Below.refl _ _) rfl)) (fun u w3 hd Q K hK => by (dsimp only at hK ⊢; obtain ⟨z, hu, hz⟩ := hd 12 rfl; rw [hu] at hK ⊢; clear hu; go_step; exact hK _ rfl rfl)), stT rfl (by decide) (by kernel_rfl) (fun u w3 hC hd hI Q K hK => by (go_step; exact hK _ _ rfl ((Below.refl _ _).alloc (Nat.le_refl _) _) (BP.new _ hC.size))), stTt rfl (by decide) (fun u w3 hC hd Q K hK => by (dsimp only at hK ⊢; obtain ⟨qq, hu, hq1, hq2, hqf, hqo⟩ := hd 15 rfl; rw [hu] at hK ⊢; have hkeep := hu; clear hu; obtain ⟨z, hu, hz⟩ := hd 13 rfl; rw [hu] at hK ⊢; clear hu; have e0 := hqf 0; have e1 := hqo.1; obtain ⟨a0, c0, rfl, -, -⟩ := hz.rws.form; go_step; have hQ := BQV.mk1 hC hq1 hq2 hqf hqo HLN.out hz; refine hK _ _ rfl (fun j hj h => ?_) ?_; (match j, hj, h with | 0, _, h => exact h | 1, _, h => exact h | 2, _, h => exact h | 3, _, h => exact h | 4, _, h => exact h | 5, _, h => exact h | 6, _, h => exact h | 7, _, h => exact h | 8, _, h => exact h | 9, _, h => exact h | 10, _, h => exact h | 11, _, h => exact (let ⟨z, g1, _⟩ := h; ⟨.agg #[z], g1, trivial⟩) | 12, _, h => exact (let ⟨z, g1, _⟩ := h; ⟨.agg #[z], g1, trivial⟩) | 13, _, _ => exact trivial | 14, _, h => exact h | 15, _, h => exact (show BQV (fun k => k = P0) (R.getD []) wr _ _ by rw [hkeep]; exact hQ) | j + 16, hj, _ => exact absurd hj (by omega)); exact trivial)), stTb rfl (by decide) (by kernel_rfl) (fun u w3 hd Q K hK => by (dsimp only at hK ⊢; have hu := bis (w := w3) (hd 14 rfl); rw [hu] at hK ⊢; clear hu; go_step; exact hK _ rfl rfl)), trivial⟩); intro u w3 hF; rw [bis (w := w3) (hF 0 (by decide))]; rw [bis (w := w3) (hF 1 (by decide))]; rw [bis (w := w3) (hF 2 (by decide))]; rw [bis (w := w3) (hF 3 (by decide))]; rw [bis (w := w3) (hF 4 (by decide))]; rw [bis (w := w3) (hF 5 (by decide))]; rw [bis (w := w3) (hF 6 (by decide))]; rw [bis (w := w3) (hF 7 (by decide))]; rw [bis (w := w3) (hF 8 (by decide))]; rw [bis (w := w3) (hF 9 (by decide))]; rw [bis (w := w3) (hF 10 (by decide))]; rw [bis (w := w3) (hF 14 (by decide))]; have h8 := hF 15 (by decide); generalize u 15 = v8 at *; rw [bis (w := w3) (hF 17 (by decide))]; generalize u 11 = vx11 at *; generalize u 12 = vx12 at *; generalize u 13 = vx13 at *; generalize u 16 = vx16 at *; clear hF
      subst hP0
      obtain ⟨q0, a0, n0, p0, rfl, hq1, hq2, g0, gf, hr3, hb3⟩ := h8
      have HR3 := Lib.hid hr3
      have hz3 := hb3.size
      have hB3 := hbr.trans (hb3.mono hzr)
      have hw3 := hwr.trans (hb3.mono hwr.size)
      have e1 := (hb3.cell (p := ⟨b, o + k * 2 + 1, none⟩) hbl).trans c1
      have e2 := (hb3.cell (p := ⟨b, o + (k + 1) * 2 + 1, none⟩) hbl).trans d1
      have hbl3 : b < w3.heap.size := by omega
      clear hr3 c0 c1 d0 d1
      obtain ⟨q, hq⟩ : ∃ q, R.isSome = q := ⟨_, rfl⟩
      have HQ := Lib.hid hq
      rw [hq]
      clear hq
      cases q
      · have HNO := Lib.hid (mrgAt_no HF.out HG.out (.inr (by rw [HMB.out]; cases R with | none => rfl | some c => exact absurd HQ.out (by simp))))
        go_wp2_with fail
        refine wp_region_over (by kernel_rfl) (by kernel_rfl) (fun ov => ?_); have ov0 := fun x => ov x (b) (by (try simp) <;> omega); clear ov; (iterate 9 (iterate 8 (try go_big_quiet_step (first | fail)))); refine wpQuiet_nil ?_; intro w4 hw9; have hb_w4 := below_over hw9; clear hw9 ov0
        have hB4 := hB3.trans (hb_w4.mono hB3.size)
        clear hb_w4
        go_wp2
        go_roundw
        case rel => exact ⟨k + 1, by omega, by go_num, Lib.hid (fun j hj => by
          rcases Nat.lt_or_ge j k with h1 | h1
          · exact HK.out j h1
          · rw [show j = k by omega]; exact HNO.out), hB4⟩
        case measure => simp [intOf]; omega
      · obtain ⟨c, rfl⟩ : ∃ c, R = some c := Option.isSome_iff_exists.1 HQ.out
        by_cases hac : f.acc = g.acc
        · have HX := Lib.hid (show mrgAt fs k = some ⟨c, f.acc⟩ by rw [mrgAt_of HF.out HG.out]; unfold mrg; rw [if_pos hac, HMB.out]; rfl)
          rw [← hac] at e2
          have hbq : (f.acc == f.acc) = true := by cases f.acc <;> rfl
          generalize f.acc = fa at *
          clear hac
          go_wp2_with fail
          refine wp_region_over (by kernel_rfl) (by kernel_rfl) (fun ov => ?_); have ov0 := fun x => ov x (b) (by (try simp) <;> omega); clear ov; (iterate 9 (iterate 8 (try go_big_quiet_step (first | fail)))); refine wpQuiet_nil ?_; intro w4 hw9; have hb_w4 := below_over hw9; clear hw9 ov0
          have hz4 := hb_w4.size
          have hB4 := hB3.trans (hb_w4.mono hB3.size)
          have hw4 := hw3.trans (hb_w4.mono hw3.size)
          have k0 := (hb_w4.cell (p := ⟨q0, 0, none⟩) hq2).trans g0
          have k1 := (hb_w4.cell (p := ⟨b, o + k * 2 + 1, none⟩) hbl3).trans e1
          have t0 := (hB4.cell (p := ⟨w.heap.size, 0, none⟩) (by simp only; omega)).trans b0
          have t1 := (hB4.cell (p := ⟨w.heap.size, 1, none⟩) (by simp only; omega)).trans b1
          have tf := fun j => (hB4.frozen (p := ⟨w.heap.size, j, none⟩) (by simp only; omega)).trans (bf j)
          have HR4 := Lib.hid (HR3.out.below hb_w4)
          have l1 : q0 < w4.heap.size := by omega
          have l2 : b < w4.heap.size := by omega
          have l3 : w.heap.size < w4.heap.size := by omega
          clear hb_w4 r0 r1 rf rf0 rf1 b0 b1 bf g0 gf e1 e2
          go_wp2_with fail
          refine wp_region_last (fun _ w => Below w4.heap.size w4 w) (fun a b => Below a.heap.size a b) (bof [BIs (.int .i64 (k : Int)), BIs (.agg #[.slice a0 n0 p0]), BIs (.slice (some ⟨b, o, none⟩) n cap), BIs (.int .i64 (k : Int)), BIs (.pointer (some ⟨b, o + k * 2, none⟩)), BIs (.pointer (some ⟨b, o + k * 2 + 1, none⟩)), BIs (.bool fa), BIs (.agg #[.slice a0 n0 p0, .bool fa]), BIs (.int .i64 (k : Int))]) (fun j _ v => j = 8 → v = .int .i64 (k : Int)) (fun w9 => ∃ wx, Below w4.heap.size w4 wx ∧ w9 = (wx.setCell ⟨w.heap.size, 0, none⟩ (.slice a0 n0 p0)).setCell ⟨w.heap.size, 1, none⟩ (.bool fa)) 9 (by kernel_rfl) rfl (fun u => by simp only [frU, Act.put, List.setIfInBounds_toArray, List.set_cons_succ, List.set_cons_zero, Nat.zero_add, Nat.reduceAdd]; exact rfl) (by kernel_rfl) (by kernel_rfl) (fun iz wz wy vz hbz hz => bof_stb [BIs (.int .i64 (k : Int)), BIs (.agg #[.slice a0 n0 p0]), BIs (.slice (some ⟨b, o, none⟩) n cap), BIs (.int .i64 (k : Int)), BIs (.pointer (some ⟨b, o + k * 2, none⟩)), BIs (.pointer (some ⟨b, o + k * 2 + 1, none⟩)), BIs (.bool fa), BIs (.agg #[.slice a0 n0 p0, .bool fa]), BIs (.int .i64 (k : Int))] ⟨bst_is _, bst_is _, bst_is _, bst_is _, bst_is _, bst_is _, bst_is _, bst_is _, bst_is _, trivial⟩ iz wz wy vz hbz hz) ⟨rfl, rfl, rfl, Nat.le_refl _, fun _ _ => rfl⟩ ?_ ?_; (exact ⟨stSb rfl (fun u w3 hC hd Q K hK => by (go_step; exact hK _ _ rfl (Below.refl _ _) rfl)), stSb rfl (fun u w3 hC hd Q K hK => by (have z0 := (hC.cell (p := ⟨q0, 0, none⟩) l1).trans k0; go_step; exact hK _ _ rfl (Below.refl _ _) rfl)), stSb rfl (fun u w3 hC hd Q K hK => by (go_step; exact hK _ _ rfl (Below.refl _ _) rfl)), stSb rfl (fun u w3 hC hd Q K hK => by (go_step; exact hK _ _ rfl (Below.refl _ _) rfl)), stSb rfl (fun u w3 hC hd Q K hK => by (have hu := bis (w := w3) (hd 2 rfl); rw [hu] at hK ⊢; clear hu; have hu := bis (w := w3) (hd 3 rfl); rw [hu] at hK ⊢; clear hu; go_step; exact hK _ _ rfl (Below.refl _ _) rfl)), stSb rfl (fun u w3 hC hd Q K hK => by (have hu := bis (w := w3) (hd 4 rfl); rw [hu] at hK ⊢; clear hu; go_step; exact hK _ _ rfl (Below.refl _ _) rfl)), stSb rfl (fun u w3 hC hd Q K hK => by (have hu := bis (w := w3) (hd 5 rfl); rw [hu] at hK ⊢; clear hu; have z0 := (hC.cell (p := ⟨b, o + k * 2 + 1, none⟩) l2).trans k1; go_step; exact hK _ _ rfl (Below.refl _ _) rfl)), stSb rfl (fun u w3 hC hd Q K hK => by (have hu := bis (w := w3) (hd 1 rfl); rw [hu] at hK ⊢; clear hu; have hu := bis (w := w3) (hd 6 rfl); rw [hu] at hK ⊢; clear hu; go_step; exact hK _ _ rfl (Below.refl _ _) rfl)), stSb rfl (fun u w3 hC hd Q K hK => by (have hu := bis (w := w3) (hd 0 rfl); rw [hu] at hK ⊢; clear hu; go_step; exact hK _ _ rfl (Below.refl _ _) rfl)), ⟨rfl, fun m u w3 hm hC hF Q K hK => by (dsimp only at hK ⊢; have hu := bis (w := w3) (hF 7 (by decide)); rw [hu] at hK ⊢; clear hu; have z0 := (hC.cell (p := ⟨w.heap.size, 0, none⟩) l3).trans t0; have z1 := (hC.cell (p := ⟨w.heap.size, 1, none⟩) l3).trans t1; have y0 := (hC.frozen (p := ⟨w.heap.size, 0, none⟩) l3).trans (tf 0); have y1 := (hC.frozen (p := ⟨w.heap.size, 1, none⟩) l3).trans (tf 1);  go_step; exact hK _ _ rfl ⟨w3, hC, rfl⟩ (fun j hj e => by subst e; exact hF 8 (by decide)))⟩⟩); intro u w9 hD hG
          obtain ⟨wx, hbx, rfl⟩ := hD
          rw [show u 8 = .int .i64 (k : Int) from hG 8 (by decide) rfl]
          clear hG
          have hzx := hbx.size
          have hBx := hB4.trans (hbx.mono hB4.size)
          have x0 := (hbx.cell (p := ⟨w.heap.size, 0, none⟩) l3).trans t0
          have x1 := (hbx.cell (p := ⟨w.heap.size, 1, none⟩) l3).trans t1
          have y0 : ((wx.setCell ⟨w.heap.size, 0, none⟩ (.slice a0 n0 p0)).setCell ⟨w.heap.size, 1, none⟩ (.bool fa)).cell? ⟨w.heap.size, 0, none⟩ = some (.slice a0 n0 p0) := by
            rw [World.cell?_setCell_other _ _ _ _ (by simp)]
            exact World.cell?_setCell_same' _ _ _ (by rw [x0]; rfl)
          have y1 : ((wx.setCell ⟨w.heap.size, 0, none⟩ (.slice a0 n0 p0)).setCell ⟨w.heap.size, 1, none⟩ (.bool fa)).cell? ⟨w.heap.size, 1, none⟩ = some (.bool fa) := World.cell?_setCell_same' _ _ _ (by rw [World.cell?_setCell_other _ _ _ _ (by simp), x1]; rfl)
          have hwW : Below w.heap.size w ((wx.setCell ⟨w.heap.size, 0, none⟩ (.slice a0 n0 p0)).setCell ⟨w.heap.size, 1, none⟩ (.bool fa)) := ((hw4.trans (hbx.mono hw4.size)).setCell (Nat.le_refl _) _).setCell (Nat.le_refl _) _
          have HFK := Lib.hid (mfirst_some HK.out HX.out)
          have HFX := Lib.hid (HR4.out.below hbx)
          go_wp2
          refine bodyPost_ret (v := .tuple #[.int .i64 (k : Int), .agg #[.slice a0 n0 p0, .bool fa]]) ?_ rfl ⟨_, _, _, ⟨c, fa⟩, by rw [mpos, HFK.out], fun j hj => ?_, hwW⟩
          · simp [results, Tryz.results95, go_sem, y0, y1]
          · rw [HFK.out] at hj
            cases hj
            exact ⟨HX.out, (RwV.keep (P' := fun _ => False) HFX.out (by simp) (fun k _ k2 => ⟨by rw [Below.heap_setCell _ _ _ _ (fun e => k2 e), Below.heap_setCell _ _ _ _ (fun e => k2 e)], fun h => h⟩)).rws⟩
        · have HNO := Lib.hid (mrgAt_no HF.out HG.out (.inl hac))
          have hbq : (f.acc == g.acc) = false := by simpa using hac
          generalize f.acc = fa at *
          generalize g.acc = ga at *
          clear hac
          go_wp2_with fail
          refine wp_region_over (by kernel_rfl) (by kernel_rfl) (fun ov => ?_); have ov0 := fun x => ov x (b) (by (try simp) <;> omega); clear ov; (iterate 9 (iterate 8 (try go_big_quiet_step (first | fail)))); refine wpQuiet_nil ?_; intro w4 hw9; have hb_w4 := below_over hw9; clear hw9 ov0
          have hB4 := hB3.trans (hb_w4.mono hB3.size)
          clear hb_w4
          go_wp2
          go_roundw
          case rel => exact ⟨k + 1, by omega, by go_num, Lib.hid (fun j hj => by
            rcases Nat.lt_or_ge j k with h1 | h1
            · exact HK.out j h1
            · rw [show j = k by omega]; exact HNO.out), hB4⟩
          case measure => simp [intOf]; omega
    · have hge : ¬ ((k : Int) + 1 < (n : Int)) := by omega
      have HM := Lib.hid (show mfirst fs = none from mfirst_none.2 (fun j => by
        rcases Nat.lt_or_ge j k with h1 | h1
        · exact HK.out j h1
        · cases e : mrgAt fs j with
          | none => rfl
          | some x => have := mrgAt_lt e; have := HN.out; omega))
      have i6 : IntKind.i64.wrap ((k : Int) + 1) = (k : Int) + 1 := IntWalk.i64_in _ (by omega)
      have hwW : Below w.heap.size w ((wr.setCell ⟨w.heap.size, 0, none⟩ (.slice none 0 0)).setCell ⟨w.heap.size, 1, none⟩ (.bool false)) := (hwr.setCell (Nat.le_refl _) _).setCell (Nat.le_refl _) _
      go_wp2
      refine bodyPost_ret (v := .tuple #[.int .i64 (-1), .agg #[.slice none 0 0, .bool false]]) ?_ rfl ⟨_, _, _, ⟨[], false⟩, by rw [mpos, HM.out], fun j hj => (by rw [HM.out] at hj; cases hj), hwW⟩
      simp [results, Tryz.results95, go_sem, r0, r1]
/-- Rows of rules in memory. -/
def LitRF (z : RF) (w : World) (v : Value) : Prop := ∃ g, v = .slice (some ⟨g, 0, none⟩) 1 1 ∧ g < w.heap.size ∧ CellsAt w g 0 (RF.enc z)
theorem litRF_st (z : RF) : BStb (LitRF z) := fun _ _ _ hb ⟨g, h1, h2, h3⟩ => ⟨g, h1, Nat.lt_of_lt_of_le h2 hb.size, h3.below h2 hb⟩
theorem litRF_new (w : World) (z : RF) : LitRF z (w.alloc (.cells #[z.s, .bool z.acc] 81)) (.slice (some ⟨w.heap.size, 0, none⟩) 1 1) :=
  ⟨w.heap.size, rfl, by simp, fun j c hj => by have := cellsNew w (RF.enc z) 81 j c hj; rwa [Addr.add_lit] at this⟩
def RFs (w : World) (rs : List RF) (L : List Ft) : Prop := All2 (fun (r : RF) (f : Ft) => Rws 0 w r.s f.box ∧ r.acc = f.acc) rs L
theorem RFs.below {w w' : World} {rs : List RF} {L : List Ft} (h : RFs w rs L) (hb : Below w.heap.size w w') : RFs w' rs L := h.mono (fun _ _ g => ⟨g.1.below hb, g.2⟩)
theorem RFs.one {w : World} {rs : List RF} {L : List Ft} (h : RFs w rs L) : ∀ u ∈ rs.flatMap RF.enc, u.oneCell' = true := fun u hu => by
  obtain ⟨r, hr, hu⟩ := List.mem_flatMap.1 hu
  obtain ⟨k, hk⟩ := List.getElem?_of_mem hr
  obtain ⟨f, hf⟩ : ∃ f, L[k]? = some f := ⟨_, List.getElem?_eq_getElem (by rw [← h.1]; exact (List.getElem?_eq_some_iff.1 hk).1)⟩
  obtain ⟨a, c, he, -, -⟩ := (h.2 k r f hk hf).1.form
  simp only [RF.enc, List.mem_cons, List.not_mem_nil, or_false] at hu
  rcases hu with rfl | rfl
  · rw [he]; rfl
  · rfl
theorem RFs.put {w : World} {rs : List RF} {L : List Ft} (h : RFs w rs L) {k : Nat} {r : RF} {x : Ft} (hk : k ≤ L.length) (hr : Rws 0 w r.s x.box ∧ r.acc = x.acc) : RFs w (rs.take k ++ [r] ++ rs.drop (k + 2)) (mput L k x) := by
  have hl := h.1
  unfold mput
  rw [List.append_assoc, List.singleton_append]
  refine ⟨by simp [hl], fun j y z hy hz => ?_⟩
  have e1 : (rs.take k).length = k := by rw [List.length_take]; omega
  have e2 : (L.take k).length = k := by rw [List.length_take]; omega
  rcases Nat.lt_trichotomy j k with hj | hj | hj
  · rw [List.getElem?_append_left (by omega), List.getElem?_take_of_lt hj] at hy hz
    exact h.2 j y z hy hz
  · subst hj
    rw [List.getElem?_append_right (by omega), e1, Nat.sub_self] at hy
    rw [List.getElem?_append_right (by omega), e2, Nat.sub_self] at hz
    cases hy; cases hz
    exact hr
  · obtain ⟨i, rfl⟩ : ∃ i, j = k + (i + 1) := ⟨j - k - 1, by omega⟩
    rw [List.getElem?_append_right (by omega), e1, Nat.add_sub_cancel_left, List.getElem?_cons_succ, List.getElem?_drop] at hy
    rw [List.getElem?_append_right (by omega), e2, Nat.add_sub_cancel_left, List.getElem?_cons_succ, List.getElem?_drop] at hz
    exact h.2 _ y z hy hz
theorem rf_fts {base : Nat} {w : World} {v : Value} {rs : List RF} {L : List Ft} (h : OwnSl base 81 2 RF.enc w v rs) (g : RFs w rs L) : Fts 0 w v L := ⟨rs, SlFr.mono (OwnSl.fr (sz := 2) (enc := RF.enc) (fun _ => rfl) h) (Nat.zero_le _), g⟩
set_option maxHeartbeats 4000000 in
set_option maxRecDepth 100000 in
theorem specMergeFlats_e {lo : Nat} {fs R : List Ft} {v : Value} {w : World} (hs : Fts lo w v fs) (hN : ftN fs ≤ 1048576) (h : mgf fs = R) :
    Calls Tryz.prog 75 #[v] w fun e w' => ∃ v', e = .returned v' ∧ Fts 0 w' v' R ∧ Below w.heap.size w w' := by
  have HR := Lib.hid h
  clear h
  obtain ⟨i0, hi, hy0, hy1, hy2⟩ := info_parts infoFt
  obtain ⟨fv, hfv⟩ : ∃ fv, fvalid fs = fv := ⟨_, rfl⟩
  go_enter Tryz.func75, Tryz.ntmps75
  go_wp2_with fail
  refine (ownFlats_any fs _ _ hs hN).mono ?_
  rintro e w1 ⟨v1, rfl, ho1, hb1⟩
  have hz1 := hb1.size
  have hs1 := ho1.fts
  obtain ⟨sa, sc, rfl, hsc, hsm⟩ := hs1.form
  unfold maxLen at hsm
  clear hs ho1
  go_wp2_with fail
  refine (specFV_b hs1 hfv).mono ?_
  rintro e w2 ⟨rfl, hb2⟩
  have hw2 := hb1.trans (hb2.mono hz1)
  have hs2 := hs1.below hb2
  clear hb2 hs1 hb1
  cases fv
  · go_wp2
    go_ret
    refine ⟨_, rfl, ?_, hw2.alloc hw2.size _⟩
    rw [← HR.out, mgf, hfv]
    exact rf_fts (litOwn 81 2 RF.enc (Nat.le_refl _)) All2.nil
  · have HV := Lib.hid hfv
    have h60 := fvalid_60 hfv
    obtain ⟨v3, w3, hrun3, ⟨rs3, ho3, hr3⟩, hb3⟩ := copyFts hs2 (Nat.le_refl _) (by omega)
    rw [List.take_length] at hr3
    have hw3 := hw2.trans (hb3.mono hw2.size)
    have HO3 := Lib.hid ho3
    have HR3 := Lib.hid (show RFs w3 rs3 fs from hr3.mono (fun _ _ g => ⟨(g.1.below hb3).mono (Nat.zero_le _), g.2⟩))
    clear hs2 ho3 hr3 hfv
    go_wp2_with (at_builtin; refine wpList_append_run rfl _ _ 23 rfl rfl rfl hrun3 ?_)
    go_wp2_with fail
    go_loopw [3, 4, 5, 6] (fun o _ _ _ wr => ∃ (rs : List RF) (L : List Ft), Hid (OwnSl w2.heap.size 81 2 RF.enc wr o rs) ∧ Hid (RFs wr rs L) ∧ Hid (mgd L = mgd fs) ∧ Hid (fvalid L = true) ∧ Hid (slen o = L.length) ∧ Below w2.heap.size w2 wr) (fun o _ _ _ _ => slen o)
    case atStart => exact ⟨rs3, fs, HO3, HR3, Lib.hid rfl, HV, Lib.hid (by
      obtain ⟨a, c, h, -, -⟩ := (rf_fts HO3.out HR3.out).form
      rw [h]; rfl), hb3⟩
    case round =>
      obtain ⟨rs, L, HO, HRF, HI, HLV, HSL, hbr⟩ := hrel
      clear HO3 HR3
      have hzr := hbr.size
      have hwr := hw2.trans (hbr.mono hw2.size)
      have hF := rf_fts HO.out HRF.out
      obtain ⟨oa, oc, rfl, hoc, hocm⟩ := hF.form
      unfold maxLen at hocm
      have hl60 := fvalid_60 HLV.out
      have HLN := Lib.hid (show L.length = L.length from rfl)
      go_wp2_with fail
      refine (l15Pair_any L _ _ hF (fun k f hf => fvalid_at HLV.out hf) (by omega)).mono ?_
      rintro e w4 ⟨za, zn, zc, x, rfl, hx, hb4⟩
      have hz4 := hb4.size
      have hw4 := hwr.trans (hb4.mono hwr.size)
      have HX := Lib.hid hx
      clear hx hF
      obtain ⟨mf, hmf⟩ : ∃ mf, mfirst L = mf := ⟨_, rfl⟩
      have HMF := Lib.hid hmf
      cases mf with
      | none =>
        have hmp : mpos L = -1 := by rw [mpos, hmf]
        have HFR := Lib.hid (show L = R by rw [← HR.out, mgf_yes HV.out, ← HI.out, mgd_fix HMF.out])
        have hal := (Below.refl w4.heap.size w4).alloc (Nat.le_refl _) (.cells #[.slice za zn zc, .bool x.acc] 81)
        have HRES := Lib.hid (rf_fts (OwnSl.kept HO.out (hb4.trans (hal.mono hz4))) (HRF.out.below (hb4.trans (hal.mono hz4))))
        have hwF := hw4.trans (hal.mono hw4.size)
        clear hmf
        rw [hmp]
        go_wp2
        go_ret
        exact ⟨_, rfl, by rw [← HFR.out]; exact HRES.out, hwF⟩
      | some k =>
        have hmp : mpos L = (k : Int) := by rw [mpos, hmf]
        obtain ⟨hma, hxr⟩ := HX.out k hmf
        have hkl := mrgAt_lt hma
        have HMA := Lib.hid hma
        have HXR := Lib.hid hxr
        obtain ⟨n, hn⟩ : ∃ n, L.length = n := ⟨_, rfl⟩
        have HN := Lib.hid hn
        have HRL := Lib.hid (show rs.length = n by rw [← hn]; exact HRF.out.1)
        rw [hn] at hkl hoc hl60 HO HSL ⊢
        obtain ⟨c, hc⟩ : ∃ c, x.acc = c := ⟨_, rfl⟩
        have HC := Lib.hid hc
        rw [hmp, hc]
        have hkn0 : ¬ ((k : Int) < 0) := by omega
        have i6 : IntKind.i64.wrap ((k : Int) + 2) = (k : Int) + 2 := IntWalk.i64_in _ (by omega)
        have i7 : (0 : Int) ≤ (k : Int) + 2 := by omega
        have hk2 : k + 2 ≤ n := by omega
        obtain ⟨W4, hW4⟩ : ∃ W4, w4.alloc (.cells #[.slice za zn zc, .bool c] 81) = W4 := ⟨_, rfl⟩
        have hal : Below w4.heap.size w4 W4 := by rw [← hW4]; exact (Below.refl _ _).alloc (Nat.le_refl _) _
        have c0 : W4.cell? ⟨w4.heap.size, 0, none⟩ = some (.slice za zn zc) := by rw [← hW4]; simp
        have c1 : W4.cell? ⟨w4.heap.size, 1, none⟩ = some (.bool c) := by rw [← hW4]; simp
        have hqz : w4.heap.size < W4.heap.size := by rw [← hW4]; simp
        have hB4 := hbr.trans ((hb4.trans (hal.mono hz4)).mono hzr)
        have hs4 : SlAt 2 RF.enc W4 (.slice oa n oc) rs := SlAt.below (OwnSl.at (sz := 2) (enc := RF.enc) (fun _ => rfl) HO.out) (hb4.trans (hal.mono hz4))
        have hal4 : Below W4.heap.size W4 (W4.alloc (.cells #[] 81)) := (Below.refl _ _).alloc (Nat.le_refl _) _
        obtain ⟨v5, w5, hrun5, ho5, hb5⟩ := run_append_copy (sz := 2) (enc := RF.enc) (by omega) (fun _ => rfl) (P := Tryz.prog) (w := W4.alloc (.cells #[] 81)) 23 23 81 i0 _ 32 Tryz.underlying23 hi hy0 hy1 hy2 rfl ⟨W4.heap.size, 0, none⟩ (litOwn 81 2 RF.enc (base := W4.heap.size) (w := W4) (Nat.le_refl _)) hal4.size (SlAt.below (SlAt.drop hs4 hk2) hal4) (by rw [List.length_drop, HRL.out]; omega)
        have hb45 := hal4.trans (hb5.mono hal4.size)
        clear hmf hma hxr hn hc hal4 hb5
        have HT5 := Lib.hid ho5
        have HS5 := Lib.hid (SlAt.below hs4 hb45)
        clear ho5 hs4
        obtain ⟨tl, htl⟩ : ∃ tl, rs.drop (k + 2) = tl := ⟨_, rfl⟩
        rw [htl] at HT5
        have HTE := Lib.hid htl
        have HTN := Lib.hid (show tl.length = n - (k + 2) by rw [← htl, List.length_drop, HRL.out])
        obtain ⟨ta, tn, tc, rfl⟩ : ∃ ta tn tc, v5 = .slice ta tn tc := by
          rcases OwnSl.form HT5.out with ⟨h, _⟩ | ⟨g, cp, h, _⟩
          · exact ⟨_, _, _, h⟩
          · exact ⟨_, _, _, h⟩
        have HONE := Lib.hid (show ∀ u ∈ tl.flatMap RF.enc, u.oneCell' = true from fun u hu => by
          rw [← htl] at hu
          obtain ⟨r, hr, hu⟩ := List.mem_flatMap.1 hu
          exact HRF.out.one u (List.mem_flatMap.2 ⟨r, List.mem_of_mem_drop hr, hu⟩))
        clear htl
        go_wp2_with (first | (refine wpList_slice_from rfl rfl (sz := 2) (k := k + 2) Tryz.underlying23 hi hy1 rfl rfl hk2 ?_) | (at_builtin; refine wpList_append_run rfl _ _ 23 rfl rfl rfl hrun5 ?_))
        obtain ⟨W, hW⟩ : ∃ W, w5 = W := ⟨_, rfl⟩
        rw [hW] at HT5 HS5 hb45 ⊢
        clear hW
        have hzW := hb45.size
        obtain ⟨q0, hq0⟩ : ∃ q0, w4.heap.size = q0 := ⟨_, rfl⟩
        rw [hq0] at c0 c1 hqz ⊢
        have d0 := (hb45.cell (p := ⟨q0, 0, none⟩) hqz).trans c0
        have d1 := (hb45.cell (p := ⟨q0, 1, none⟩) hqz).trans c1
        have hEW : q0 < W.heap.size := by omega
        have HSW := HS5
        have HTL := Lib.hid (OwnSl.at (sz := 2) (enc := RF.enc) (fun _ => rfl) HT5.out)
        obtain ⟨tn', htn'⟩ : ∃ tn', tn = tn' := ⟨_, rfl⟩
        have kn : k ≤ n := by omega
        have hBW := hB4.trans (hb45.mono hB4.size)
        have hwW := hw2.trans (hBW.mono hw2.size)
        clear c0 c1 htn' hrun5
        refine wp_region_rel2J (fun _ x => Below W.heap.size W x) (fun L i x y => Hof [HTill 4 (fun x y => ∃ ad, y = .slice (some ad) 0 0 ∧ OwnSl W.heap.size 81 2 RF.enc x y []), HIs (.slice oa n oc), HIs (.int .i64 k), HIs (.slice oa k oc), HTill 7 (fun x y => OwnSl W.heap.size 81 2 RF.enc x y (rs.take k)), HIs (.agg #[.slice za zn zc, .bool c]), HTill 7 (LitRF ⟨.slice za zn zc, c⟩), HAnd 4 (HTill 9 (fun x y => OwnSl W.heap.size 81 2 RF.enc x y (rs.take k ++ [⟨.slice za zn zc, c⟩]))), HIs (.slice ta tn tc), HAnd 7 (HW (fun x y => OwnSl W.heap.size 81 2 RF.enc x y (rs.take k ++ [⟨.slice za zn zc, c⟩] ++ tl))), HAnd 7 (HAnd 9 (HW (fun x y => OwnSl W.heap.size 81 2 RF.enc x y (rs.take k ++ [⟨.slice za zn zc, c⟩] ++ tl))))] L i x y)
          (by kernel_rfl) (fun u => by simp only [frU, Act.put, List.setIfInBounds_toArray, List.set_cons_succ, List.set_cons_zero, Nat.zero_add, Nat.reduceAdd]; exact rfl) (by kernel_rfl) ⟨rfl, rfl, rfl, Nat.le_refl _, fun _ _ => rfl⟩ ?hs2 ?hend2
        case hs2 =>
          have hG : HAll [HTill 4 (fun x y => ∃ ad, y = .slice (some ad) 0 0 ∧ OwnSl W.heap.size 81 2 RF.enc x y []), HIs (.slice oa n oc), HIs (.int .i64 k), HIs (.slice oa k oc), HTill 7 (fun x y => OwnSl W.heap.size 81 2 RF.enc x y (rs.take k)), HIs (.agg #[.slice za zn zc, .bool c]), HTill 7 (LitRF ⟨.slice za zn zc, c⟩), HAnd 4 (HTill 9 (fun x y => OwnSl W.heap.size 81 2 RF.enc x y (rs.take k ++ [⟨.slice za zn zc, c⟩]))), HIs (.slice ta tn tc), HAnd 7 (HW (fun x y => OwnSl W.heap.size 81 2 RF.enc x y (rs.take k ++ [⟨.slice za zn zc, c⟩] ++ tl))), HAnd 7 (HAnd 9 (HW (fun x y => OwnSl W.heap.size 81 2 RF.enc x y (rs.take k ++ [⟨.slice za zn zc, c⟩] ++ tl))))] := ⟨hstb_till (fun _ _ _ hb h => by obtain ⟨ad, h1, h2⟩ := h; exact ⟨ad, h1, OwnSl.kept h2 hb⟩), hstb_is _, hstb_is _, hstb_is _, hstb_till (fun _ _ _ hb h => OwnSl.kept h hb), hstb_is _, hstb_till (litRF_st _), hstb_and (hstb_till (fun _ _ _ hb h => OwnSl.kept h hb)), hstb_is _, hstb_and (hstb_w (fun _ _ _ hb h => OwnSl.kept h hb)), hstb_and (hstb_and (hstb_w (fun _ _ _ hb h => OwnSl.kept h hb))), trivial⟩
          refine ⟨?_, ?_, ?_, ?_, ?_, ?_, ?_, ?_, ?_, ?_, ?_, trivial⟩
          · refine stepRJ (fun L u w3 hL hC hd => ⟨rfl, fun Q K hK => ?_⟩)
            clear hd
            go_step
            exact hK _ _ rfl (hC.alloc hC.size _) (.inr ⟨_, rfl, litOwn 81 2 RF.enc hC.size⟩) (fun j x hj hL9 h9 => hof_stb _ hG L 0 j _ _ _ ((Below.refl _ _).alloc (Nat.le_refl _) _) h9)
          · refine stepJ (fun L u w3 hL hC hd hI => ⟨rfl, fun Q K hK => ?_⟩)
            rw [show u 10 = .slice oa n oc from hI 10 _ rfl (by kernel_rfl)] at hK ⊢
            clear hd
            go_step
            exact hK _ _ rfl hC rfl (fun j x hj hL9 h9 => hof_stb _ hG L 1 j _ _ _ (Below.refl _ _) h9)
          · refine stepRJ (fun L u w3 hL hC hd => ⟨rfl, fun Q K hK => ?_⟩)
            clear hd
            go_step
            exact hK _ _ rfl hC rfl (fun j x hj hL9 h9 => hof_stb _ hG L 2 j _ _ _ (Below.refl _ _) h9)
          · refine stepRJ (fun L u w3 hL hC hd => ⟨rfl, fun Q K hK => ?_⟩)
            have hu1 := his (L := L) (w := w3) (hd 1 rfl).2
            rw [hu1] at hK ⊢
            have hu2 := his (L := L) (w := w3) (hd 2 rfl).2
            rw [hu2] at hK ⊢
            clear hd
            refine wp_slice_to rfl Tryz.underlying23 hi rfl rfl (by omega) ?_
            exact hK _ _ rfl hC rfl (fun j x hj hL9 h9 => hof_stb _ hG L 3 j _ _ _ (Below.refl _ _) h9)
          · refine stepRJ (fun L u w3 hL hC hd => ⟨rfl, fun Q K hK => ?_⟩)
            have hu3 := his (L := L) (w := w3) (hd 3 rfl).2
            rw [hu3] at hK ⊢
            have h0 : HTill 4 (fun x y => ∃ ad, y = .slice (some ad) 0 0 ∧ OwnSl W.heap.size 81 2 RF.enc x y []) L w3 (u 0) := (hd 0 rfl).2
            obtain ⟨ad, hu0, ho0⟩ := htill h0 hL
            rw [hu0] at hK ho0 ⊢
            clear hd h0
            obtain ⟨v5, w5, hrun, ho5, hb5⟩ := run_append_copy (sz := 2) (enc := RF.enc) (by omega) (fun _ => rfl) (P := Tryz.prog) (w := w3) 23 23 81 i0 _ 32 Tryz.underlying23 hi hy0 hy1 hy2 rfl (base := W.heap.size) ad ho0 hC.size (SlAt.below (SlAt.take HSW.out kn) hC) (by rw [List.length_take]; omega)
            refine wp_append_run _ _ _ rfl rfl rfl hrun ?_
            exact hK _ _ rfl (hC.trans (hb5.mono hC.size)) (.inr ho5) (fun j x hj hL9 h9 => hof_stb _ hG L 4 j _ _ _ hb5 h9)
          · refine stepRJ (fun L u w3 hL hC hd => ⟨rfl, fun Q K hK => ?_⟩)
            clear hd
            have e0 := (hC.cell (p := ⟨q0, 0, none⟩) hEW).trans d0
            have e1 := (hC.cell (p := ⟨q0, 1, none⟩) hEW).trans d1
            go_step
            exact hK _ _ rfl hC rfl (fun j x hj hL9 h9 => hof_stb _ hG L 5 j _ _ _ (Below.refl _ _) h9)
          · refine stepRJ (fun L u w3 hL hC hd => ⟨rfl, fun Q K hK => ?_⟩)
            have hu5 := his (L := L) (w := w3) (hd 5 rfl).2
            rw [hu5] at hK ⊢
            clear hd
            go_step
            exact hK _ _ rfl (hC.alloc hC.size _) (.inr (litRF_new _ ⟨.slice za zn zc, c⟩)) (fun j x hj hL9 h9 => hof_stb _ hG L 6 j _ _ _ ((Below.refl _ _).alloc (Nat.le_refl _) _) h9)
          · refine stepRJ (fun L u w3 hL hC hd => ⟨rfl, fun Q K hK => ?_⟩)
            have hL4 := (hd 4 rfl).1
            have h4 : HTill 7 (fun x y => OwnSl W.heap.size 81 2 RF.enc x y (rs.take k)) L w3 (u 4) := (hd 4 rfl).2
            have h6 : HTill 7 (LitRF ⟨.slice za zn zc, c⟩) L w3 (u 6) := (hd 6 rfl).2
            have ho4 := htill h4 hL
            obtain ⟨g, hu6, hg, hcg⟩ := htill h6 hL
            clear h4 h6
            rw [hu6] at hK ⊢
            clear hd
            generalize u 4 = v4 at *
            obtain ⟨g5, cap5, w5, hrun, hown5, hgr5, _, _⟩ := run_append_lies (P := Tryz.prog) (w := w3) 23 23 W.heap.size 81 i0 _ 2 32 Tryz.underlying23 hi hy0 hy1 hy2 rfl (by decide) v4 (rs.take k).length _ ho4 ⟨g, 0, none⟩ 1 1 (RF.enc ⟨.slice za zn zc, c⟩) rfl (fun j c hj => by rw [Addr.add_lit]; exact hcg j c hj) (by simp [Value.oneCell']) (by omega) (by rw [List.length_take]; simp only [maxLen]; omega) (by rw [List.length_take]; omega) hC.size w3.heap.size rfl
            refine wp_append_run _ _ _ rfl rfl rfl hrun ?_
            have hC5 : Below W.heap.size W w5 := belGrown hC ho4 hgr5 hC.size
            refine hK _ _ rfl hC5 ⟨setKeeps hL4, .inr (OwnSl.pushed rfl hown5)⟩ (fun j x hj hL9 h9 => hof_endL _ 0 ?_ j _ _ _ (by omega) h9)
            exact ⟨el_till 4 _ (setKeeps hL4), el_is _, el_is _, el_is _, el_till 7 _ (set_now hL), el_is _, el_till 7 _ (set_now hL), el_self _, el_is _, el_late hL, el_late hL, trivial⟩
          · refine stepRJ (fun L u w3 hL hC hd => ⟨rfl, fun Q K hK => ?_⟩)
            clear hd
            go_step
            exact hK _ _ rfl hC rfl (fun j x hj hL9 h9 => hof_stb _ hG L 8 j _ _ _ (Below.refl _ _) h9)
          · refine stepRJ (fun L u w3 hL hC hd => ⟨rfl, fun Q K hK => ?_⟩)
            have hu8 := his (L := L) (w := w3) (hd 8 rfl).2
            rw [hu8] at hK ⊢
            have h77 : HAnd 4 (HTill 9 (fun x y => OwnSl W.heap.size 81 2 RF.enc x y (rs.take k ++ [⟨.slice za zn zc, c⟩]))) L w3 (u 7) := (hd 7 rfl).2
            obtain ⟨hL4, h7⟩ := h77
            have hL7 := (hd 7 rfl).1
            have ho7 : OwnSl W.heap.size 81 2 RF.enc w3 (u 7) (rs.take k ++ [⟨.slice za zn zc, c⟩]) := htill h7 hL
            clear hd h7
            generalize u 7 = v7 at *
            obtain ⟨v5, w5, hrun, ho5, hC5⟩ := own_append_any (W := W) (P := Tryz.prog) (w := w3) (sz := 2) (enc := RF.enc) (by omega) (fun _ => rfl) 23 23 81 i0 _ 32 Tryz.underlying23 hi hy0 hy1 hy2 rfl HONE.out ho7 (by simp) (SlAt.below HTL.out hC) (by simp only [List.length_append, List.length_take, List.length_singleton, HRL.out, HTN.out]; omega) (by simp only [List.length_append, List.length_take, List.length_singleton, HRL.out, HTN.out, maxLen]; omega) hC
            refine wp_append_run _ _ _ rfl rfl rfl hrun ?_
            refine hK _ _ rfl hC5 ⟨setKeeps hL7, ho5⟩ (fun j x hj hL9 h9 => hof_endL _ 0 ?_ j _ _ _ (by omega) h9)
            exact ⟨el_till 4 _ (setKeeps hL4), el_is _, el_is _, el_is _, el_till 7 _ (setKeeps hL7), el_is _, el_till 7 _ (setKeeps hL7), el_and 4 (el_till 9 _ (set_now hL)), el_is _, el_self _, el_and 7 (el_late hL), trivial⟩
          · refine stepRJ (fun L u w3 hL hC hd => ⟨rfl, fun Q K hK => ?_⟩)
            have ho : OwnSl W.heap.size 81 2 RF.enc w3 (u 9) (rs.take k ++ [⟨.slice za zn zc, c⟩] ++ tl) := (hd 9 rfl).2.2
            have hL7 := (hd 9 rfl).2.1
            have hL9 := (hd 9 rfl).1
            clear hd
            generalize u 9 = v9 at *
            go_step
            exact hK _ _ rfl hC ⟨setKeeps hL7, setKeeps hL9, ho⟩ (fun j x hj hL9 h9 => hof_stb _ hG L 10 j _ _ _ (Below.refl _ _) h9)
        case hend2 =>
          intro L9 u w9 hL hC hF
          have ho : OwnSl W.heap.size 81 2 RF.enc w9 (u 10) (rs.take k ++ [⟨.slice za zn zc, c⟩] ++ tl) := (hF 10 (by simp)).2.2
          generalize u 10 = v10 at *
          have HO9 := Lib.hid ho
          clear ho hF
          have hB9 := hBW.trans (hC.mono hBW.size)
          have hP9 := Lib.hid ((HRF.out.below hb4).put (k := k) (r := ⟨.slice za zn zc, c⟩) (x := x) (by rw [HN.out]; exact kn) ⟨HXR.out, HC.out.symm⟩)
          rw [← HTE.out] at HO9
          have hb9 : Below w4.heap.size w4 w9 := hal.trans ((hb45.trans (hC.mono hb45.size)).mono hal.size)
          have hOF := Lib.hid (OwnSl.mono HO9.out (show w2.heap.size ≤ W.heap.size from hBW.size))
          have hRF := Lib.hid (hP9.out.below hb9)
          have hml := mput_len (h := x) (mrgAt_lt HMA.out)
          have HI9 := Lib.hid ((mgd_step HMF.out HMA.out).symm.trans HI.out)
          have HV9 := Lib.hid (mput_valid HLV.out HMA.out)
          have HS9 := Lib.hid (show slen v10 = (mput L k x).length by
            obtain ⟨a, c, h, -, -⟩ := (rf_fts hOF.out hRF.out).form
            rw [h]; rfl)
          have hms : slen v10 < slen (.slice oa L.length oc) := by rw [HS9.out]; show _ < L.length; omega
          go_wp2
          go_roundw
          case rel => exact ⟨_, _, hOF, hRF, HI9, HV9, HS9, hB9⟩
          case measure => exact hms
end Go.Proofs.YtajcogpfmpehkaaGreatDoor
