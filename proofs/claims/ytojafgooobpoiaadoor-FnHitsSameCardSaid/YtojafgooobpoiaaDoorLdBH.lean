/- The law FnByHits: the walk. -/
import Derived.Test.YtojafgooobpoiaaDoorDx
import Derived.Test.YtojafgooobpoiaaDoorDxBT
import Derived.Test.YtojafgooobpoiaaDoorLBH
namespace Go.Proofs.YtojafgooobpoiaaDoor
open Go.RowKit
theorem bub_jfl : ∀ (n : Nat) (L : List Ft) (c : List Int) (r : Bool) (p : Pk), jfl (bub n L c).1 r p = jfl L r p
  | 0, L, c, r, p => rfl
  | n + 1, L, c, r, p => by
    unfold bub
    split
    · rename_i h
      rw [Bool.and_eq_true] at h
      rw [bub_jfl n, jfl_swap h.2]
    · rfl
theorem bys_jfl (fs : List Ft) (cs : List Int) (r : Bool) (p : Pk) : ∀ k, jfl (bys fs cs k).1 r p = jfl fs r p
  | 0 => rfl
  | k + 1 => by rw [bys, bub_jfl, bys_jfl fs cs r p k]
theorem rep_getD (m i : Nat) : (List.replicate m (0 : Int)).getD i 0 = 0 := by
  rw [List.getD_eq_getElem?_getD, List.getElem?_replicate]
  split <;> rfl
theorem bub_zero (fs : List Ft) (m : Nat) : ∀ k, bub k fs (List.replicate m 0) = (fs, List.replicate m 0)
  | 0 => rfl
  | k + 1 => by
    unfold bub
    rw [rep_getD, rep_getD]
    rfl
theorem bys_zero (fs : List Ft) (m : Nat) : ∀ k, bys fs (List.replicate m 0) k = (fs, List.replicate m 0)
  | 0 => rfl
  | k + 1 => by rw [bys, bys_zero fs m k, bub_zero]
theorem byh_zero {fs : List Ft} (hv : fvalid fs = true) : byh fs (List.replicate fs.length 0) = fs := by
  rw [byh_yes hv (cvalid_yes (by simp) (fun k c h => by
    rw [List.getElem?_replicate] at h
    split at h
    · cases h; omega
    · cases h)), bys_zero]
theorem byh_cases (fs : List Ft) (cs : List Int) : byh fs cs = [] ∨ (fvalid fs = true ∧ (byh fs cs).length = fs.length ∧ ∀ r p, jfl (byh fs cs) r p = jfl fs r p) := by
  cases h : fvalid fs && cvalid fs cs
  · left; unfold byh; rw [h]; rfl
  · right
    rw [Bool.and_eq_true] at h
    rw [byh_yes h.1 h.2]
    exact ⟨h.1, (bys_inv fs cs _).1, fun r p => bys_jfl fs cs r p _⟩
def DrewFC (w : World) (e : Ending) (w' : World) : Prop := ∃ v u fs cs, e = .returned (.tuple #[v, u]) ∧ FsD w w' v fs ∧ Ins w' u cs
set_option maxHeartbeats 4000000 in
set_option maxRecDepth 100000 in
theorem drawBH_any (bs : List Int) (v : Value) (w : World) (h : CodeAt w v bs) : Calls Tryd.prog 31 #[v] w (DrewFC w) := by
  obtain ⟨i0, hi, hy0, hy1, hy2⟩ := info_parts infoInt
  go_enter Tryd.func31, Tryd.ntmps31
  go_wp2_with fail
  refine (open_any bs _ _ h).mono ?_
  rintro e w1 ⟨R, bs', rfl, hR, hr1, hb1⟩
  have hz1 := hb1.size
  have hRlt := hr1.lt
  go_wp2_with fail
  refine (drawFts_any R bs' 0 14 _ hr1 (by omega) (by omega) (by omega)).mono ?_
  rintro e w2 ⟨v2, fs, q2, rfl, ho2, hl2, hk2, hr2, hq2, hm2⟩
  have hz2 := hm2.size
  obtain ⟨sa, cap, rfl, hlc, hcm⟩ := ho2.fts.form
  unfold maxLen at hcm
  generalize hn : fs.length = n at *
  have HN := Lib.hid hn
  have hal : Below w2.heap.size w2 (w2.alloc (.cells #[] 3)) := (Below.refl _ _).alloc (Nat.le_refl _) _
  have HF0 := Lib.hid ho2
  have HO0 := Lib.hid (show OwnIn w2.heap.size (w2.alloc (.cells #[] 3)) (.slice (some ⟨w2.heap.size, 0, none⟩) 0 0) [] from litOwn 3 1 encI (Nat.le_refl _))
  have hr0 : RdAt R bs' (w2.alloc (.cells #[] 3)) q2 := hr2.below hal
  have hM0 : Mv R w2.heap.size w2 (w2.alloc (.cells #[] 3)) := Mv.of_below hal
  clear ho2 hal hr2 hn
  go_wp2_with fail
  go_loopw [6, 7] (fun o i wr => ∃ (k q : Nat) (cs : List Int), k ≤ n ∧ i = .int .i64 k ∧ Hid (OwnIn w2.heap.size wr o cs) ∧ cs.length = k ∧ RdAt R bs' wr q ∧ q ≤ q2 + k ∧ Mv R w2.heap.size w2 wr) (fun _ i _ => n - (intOf i).toNat)
  case atStart => exact ⟨0, q2, [], by omega, rfl, HO0, rfl, hr0, by omega, hM0⟩
  case round =>
    obtain ⟨k, q, cs, hk, rfl, HO, hcl, hr, hq, hmr⟩ := hrel
    have hzr := hmr.size
    clear HO0 hr0 hM0
    by_cases hlt : k < n
    · have i1 : (k : Int) < (n : Int) := by omega
      go_wp2_with fail
      refine (pick_any R bs' _ _ _ hr (by omega) (by omega)).mono ?_
      rintro e w3 ⟨x3, rfl, a3, b3, -, hr3, hm3⟩
      have hz3 := hm3.size
      have HO3 := Lib.hid (OwnSl.mvK HO.out hm3 (by omega))
      have hM3 := hmr.trans (hm3.mono hzr)
      clear b3 hr hm3
      go_wp2_with (at_builtin; refine wpList_append_own _ rfl _ _ 35 rfl w2.heap.size 3 i0 _ 1 8 Tryd.underlying35 hi hy0 hy1 hy2 rfl (by decide) _ _ _ rfl (World.ownsRow.alloc HO3.out _) ⟨w3.heap.size, 0, none⟩ 1 1 (encI x3) rfl rfl (cellsNew w3 (encI x3) _) ?c2 ?c3 ?c4 ?c5 ?_)
      case c2 => simp [Value.oneCell']
      case c3 => simp only [maxLen]; omega
      case c4 => omega
      case c5 => simp; omega
      intro v' w5 hown5 hgrow5 _
      have hB5 : Below w2.heap.size w3 w5 := belGrown ((Below.refl _ _).alloc (by omega) _) (World.ownsRow.alloc HO3.out _) hgrow5 (by simp; omega)
      have hr5 : RdAt R bs' w5 (q + 1) := hr3.up (hB5.mono (by omega))
      have hm5 : Mv R w2.heap.size w2 w5 := hM3.trans (Mv.of_below hB5)
      have HO5 := Lib.hid (OwnSl.pushed (enc := encI) (sz := 1) hcl.symm hown5)
      clear hown5 hgrow5
      go_wp2
      go_roundw
      case rel => exact ⟨k + 1, q + 1, _, by omega, by go_num, HO5, by simp [hcl], hr5, by omega, hm5⟩
      case measure => simp [intOf]; omega
    · have hkn : k = n := by omega
      go_wp2_with fail
      refine (odd_any R bs' _ _ _ hr (by omega) (by omega) (by omega)).mono ?_
      rintro e w3 ⟨x3, q3, rfl, hr3, hq3, hm3⟩
      have hz3 := hm3.size
      have HO3 := Lib.hid (OwnSl.mvK HO.out hm3 (by omega))
      have HM3 := Lib.hid (hmr.trans (hm3.mono hzr))
      have HR3 := Lib.hid hr3
      clear hr hm3 hr3
      go_upto_if 25 with (fail)
      go_cut [6] (fun o wx => ∃ (cs : List Int) (q : Nat), Hid (OwnIn w2.heap.size wx o cs) ∧ Hid (cs.length ≤ 62) ∧ Hid (RdAt R bs' wx q) ∧ q ≤ q2 + 100 ∧ Hid (Mv R w2.heap.size w2 wx))
      case first =>
        cases x3
        · go_wp2_with fail
          go_meet
          exact ⟨cs, q3, HO3, Lib.hid (by omega), HR3, by omega, HM3⟩
        · go_wp2_with (at_builtin; refine wpList_append_own _ rfl _ _ 35 rfl w2.heap.size 3 i0 _ 1 8 Tryd.underlying35 hi hy0 hy1 hy2 rfl (by decide) _ _ _ rfl (World.ownsRow.alloc HO3.out _) ⟨w3.heap.size, 0, none⟩ 1 1 (encI 1) rfl rfl (cellsNew w3 (encI 1) _) ?c2 ?c3 ?c4 ?c5 ?_)
          case c2 => simp [Value.oneCell']
          case c3 => simp only [maxLen]; omega
          case c4 => omega
          case c5 => simp; omega
          intro v' w5 hown5 hgrow5 _
          have hB5 : Below w2.heap.size w3 w5 := belGrown ((Below.refl _ _).alloc (by omega) _) (World.ownsRow.alloc HO3.out _) hgrow5 (by simp; omega)
          have HR5 := Lib.hid (HR3.out.up (hB5.mono (by omega)))
          have HM5 := Lib.hid (HM3.out.trans (Mv.of_below hB5))
          have HO5 := Lib.hid (OwnSl.pushed (enc := encI) (sz := 1) (show n = cs.length by omega) hown5)
          clear hown5 hgrow5
          go_wp2
          go_meet
          exact ⟨_, q3, HO5, Lib.hid (by simp; omega), HR5, by omega, HM5⟩
      case rest =>
        obtain ⟨cs, q, HO, HL, HR, hq, HM⟩ := hcut
        clear HO3 HM3 HR3
        rcases OwnSl.form HO.out with ⟨hu, rfl⟩ | ⟨g, c, hu, hg1, hg2, -⟩
        · rw [hu]
          rw [hu] at HO
          go_wp2_with fail
          go_ret2
          exact ⟨_, _, fs, [], rfl, ⟨(HF0.out.mv HM.out (by omega)).low hz1, by rw [HN.out]; exact hl2, hk2, hb1.trans ((hm2.trans (HM.out.mono hz2)).below (by omega) hR)⟩, OwnIn.ins (show OwnIn w2.heap.size wc (.slice none 0 0) [] from HO.out)⟩
        · by_cases hl0 : cs.length = 0
          · rw [hu, hl0]
            go_wp2_with fail
            go_ret2
            exact ⟨_, _, fs, cs, rfl, ⟨(HF0.out.mv HM.out (by omega)).low hz1, by rw [HN.out]; exact hl2, hk2, hb1.trans ((hm2.trans (HM.out.mono hz2)).below (by omega) hR)⟩, (by have := OwnIn.ins (show OwnIn w2.heap.size wc _ cs from HO.out); rwa [hu, hl0] at this)⟩
          · rw [hu] at HO ⊢
            have hc1 : (0 : Int) < (cs.length : Int) := by omega
            have hcm : (cs.length : Int) ≤ 62 := by have := HL.out; omega
            go_wp2_with fail
            refine (odd_any R bs' _ _ _ HR.out (by omega) (by omega) (by omega)).mono ?_
            rintro e w4 ⟨x4, q4, rfl, hr4, hq4, hm4⟩
            have hz4 := hm4.size
            have HO4 := Lib.hid (OwnSl.mvK HO.out hm4 (by omega))
            have HM4 := Lib.hid (HM.out.trans (hm4.mono HM.out.size))
            clear hr4
            cases x4
            · go_wp2
              go_ret2
              exact ⟨_, _, fs, cs, rfl, ⟨(HF0.out.mv HM4.out (by omega)).low hz1, by rw [HN.out]; exact hl2, hk2, hb1.trans ((hm2.trans (HM4.out.mono hz2)).below (by omega) hR)⟩, (OwnIn.ins (show OwnIn w2.heap.size w4 _ cs from HO4.out))⟩
            · obtain ⟨c0, hc0⟩ : ∃ c0, cs[0]? = some c0 := ⟨_, List.getElem?_eq_getElem (by omega)⟩
              have d0 := OwnSl.cell (enc := encI) (sz := 1) (fun _ => rfl) HO4.out hc0 0 (.int .i64 c0) rfl
              have f0 := OwnSl.frz HO4.out 0
              have hS := (OwnSl.storeAt (enc := encI) (sz := 1) (fun _ => rfl) rfl HO4.out hc0 (j := 0) (c := .int .i64 (-1)) (y' := -1) (by omega) rfl).1
              simp only [Nat.zero_mul, Nat.add_zero] at d0 hS
              have HS5 := Lib.hid hS
              have HM5 := Lib.hid (HM4.out.setCell (p := ⟨g, 0, none⟩) hg1 (.int .i64 (-1)))
              have hg4 : g < w4.heap.size := by omega
              clear hS hc0
              go_wp2
              go_ret2
              exact ⟨_, _, fs, _, rfl, ⟨(HF0.out.mv HM5.out (by omega)).low hz1, by rw [HN.out]; exact hl2, hk2, hb1.trans ((hm2.trans (HM5.out.mono hz2)).below (by omega) hR)⟩, (OwnIn.ins (show OwnIn w2.heap.size (w4.setCell ⟨g, 0, none⟩ (.int .i64 (-1))) _ _ from HS5.out))⟩
end Go.Proofs.YtojafgooobpoiaaDoor
