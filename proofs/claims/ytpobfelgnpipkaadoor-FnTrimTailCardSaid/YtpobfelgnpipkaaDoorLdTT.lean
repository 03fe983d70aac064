/- The law FnTrimTail: the walk. -/
import Derived.Test.YtpobfelgnpipkaaDoorDxB
namespace Go.Proofs.YtpobfelgnpipkaaDoor
open Go.RowKit
theorem tcut_all (fs : List Ft) (r : Bool) : ∀ n, (∀ (i : Nat) g, tcut fs r n ≤ i → i < n → fs[i]? = some g → g.acc = r) ∧ (∀ (m : Nat) g, n ≤ fs.length → tcut fs r n = m + 1 → fs[m]? = some g → g.acc ≠ r)
  | 0 => ⟨fun i g _ h _ => by omega, fun m g _ h _ => by unfold tcut at h; omega⟩
  | n + 1 => by
    obtain ⟨h1, h2⟩ := tcut_all fs r n
    cases hf : fs[n]? with
    | none =>
      have e : tcut fs r (n + 1) = n + 1 := by unfold tcut; rw [hf]
      rw [e]
      exact ⟨fun i g a b _ => by omega, fun m g hl a hg => by have := List.getElem?_eq_none_iff.1 hf; omega⟩
    | some f =>
      by_cases ha : f.acc = r
      · rw [tcut_yes hf ha]
        refine ⟨fun i g a b hg => ?_, fun m g hl => h2 m g (by omega)⟩
        by_cases hi : i = n
        · subst hi; rw [hf] at hg; cases hg; exact ha
        · exact h1 i g a (by omega) hg
      · rw [tcut_no hf ha]
        refine ⟨fun i g a b _ => by omega, fun m g hl a hg => ?_⟩
        obtain rfl : n = m := by omega
        rw [hf] at hg
        cases hg
        exact ha
theorem jw_all {p : Pk} {r : Bool} : ∀ (fs : List Ft), (∀ (i : Nat) g, fs[i]? = some g → g.acc = r) → jw fs r p = r
  | [], _ => rfl
  | f :: fs, h => by
    unfold jw
    rw [jw_all fs (fun i g hg => h (i + 1) g (by simpa using hg)), h 0 f rfl]
    split <;> rfl
theorem jw_trim {p : Pk} {r : Bool} : ∀ (fs : List Ft) (m : Nat), (∀ (i : Nat) g, m ≤ i → fs[i]? = some g → g.acc = r) → jw (fs.take m) r p = jw fs r p
  | [], _, _ => by simp
  | f :: fs, 0, h => by
    rw [jw_all (f :: fs) (fun i g => h i g (by omega))]
    rfl
  | f :: fs, m + 1, h => by
    rw [List.take_succ_cons]
    unfold jw
    rw [jw_trim fs m (fun i g hi hg => h (i + 1) g (by omega) (by simpa using hg))]
theorem jfl_trim (fs : List Ft) (r : Bool) (p : Pk) (hv : fvalid fs = true) : jfl (ttrim fs r) r p = jfl fs r p := by
  unfold jfl
  rw [ttrim_valid, hv]
  unfold ttrim
  rw [hv]
  simp only [if_true]
  rw [jw_trim fs _ (fun i g hi hg => (tcut_all fs r fs.length).1 i g hi (List.getElem?_eq_some_iff.1 hg).1 hg)]
def DrewFB (w : World) (e : Ending) (w' : World) : Prop := ∃ v fs r, e = .returned (.tuple #[v, .bool r]) ∧ FsD w w' v fs
set_option maxHeartbeats 2000000 in
set_option maxRecDepth 100000 in
theorem drawTT_any (bs : List Int) (v : Value) (w : World) (h : CodeAt w v bs) : Calls Tryd.prog 59 #[v] w (DrewFB w) := by
  go_enter Tryd.func59, Tryd.ntmps59
  go_wp2_with fail
  refine (open_any bs _ _ h).mono ?_
  rintro e w1 ⟨R, bs', rfl, hR, hr1, hb1⟩
  have hz1 := hb1.size
  have hRlt := hr1.lt
  go_wp2_with fail
  refine (drawFts_any R bs' 0 12 _ hr1 (by omega) (by omega) (by omega)).mono ?_
  rintro e w2 ⟨v2, fs, q2, rfl, ho2, hl2, hk2, hr2, hq2, hm2⟩
  have hz2 := hm2.size
  obtain ⟨sa, cap, rfl, hlc, hcm⟩ := ho2.fts.form
  unfold maxLen at hcm
  go_wp2_with fail
  refine (pick_any R bs' _ _ _ hr2 (by omega) (by omega)).mono ?_
  rintro e w3 ⟨x3, rfl, a3, b3, -, hr3, hm3⟩
  have HO3 := Lib.hid (ho2.mv hm3 (by omega))
  have hM3 := hm2.trans (hm3.mono hz2)
  have hB : Below w.heap.size w w3 := hb1.trans (hM3.below (by omega) hR)
  obtain ⟨r, hr⟩ : ∃ r : Bool, (x3 == 0) = r := ⟨_, rfl⟩
  clear b3 hr2 hm2 hm3 ho2 hr3 hM3
  go_wp2
  go_ret2
  exact ⟨_, fs, _, rfl, HO3.out.low hz1, hl2, hk2, hB⟩
set_option maxHeartbeats 4000000 in
set_option maxRecDepth 100000 in
theorem law_FnTrimTail (bs bs2 : List Int) (v v2 : Value) (w : World) (h : CodeAt w v bs) (h2 : CodeAt w v2 bs2) (ht : Tab w) :
    Calls Tryd.prog 13 #[v, v2] w fun e w' => e = .returned (.bool true) ∧ Below w.heap.size w w' := by
  obtain ⟨a, cap, rfl, l1, l2, -⟩ := code_cells h
  obtain ⟨a2, cap2, rfl, m1, m2, -⟩ := code_cells h2
  unfold maxLen at l2 m2
  by_cases hl : 1048576 < bs.length
  · go_enter Tryd.func13, Tryd.ntmps13
    go_wp2
    go_ret
    exact ⟨rfl, by (repeat' (first | with_reducible exact Below.refl _ _ | with_reducible assumption | with_reducible refine Below.setCell ?_ ?_ _ | with_reducible refine Below.alloc ?_ ?_ _ | with_reducible refine Below.drew ?_ | with_reducible refine belDrewN ?_ _ | with_reducible refine Below.trans ?_ (Below.mono (by assumption) ?_) | omega | (simp; omega) | (simp; done)))⟩
  · by_cases hl2 : 1048576 < bs2.length
    · go_enter Tryd.func13, Tryd.ntmps13
      go_wp2
      go_ret
      exact ⟨rfl, by (repeat' (first | with_reducible exact Below.refl _ _ | with_reducible assumption | with_reducible refine Below.setCell ?_ ?_ _ | with_reducible refine Below.alloc ?_ ?_ _ | with_reducible refine Below.drew ?_ | with_reducible refine belDrewN ?_ _ | with_reducible refine Below.trans ?_ (Below.mono (by assumption) ?_) | omega | (simp; omega) | (simp; done)))⟩
    · have hsd : bs2.length ≤ 1048576 := by omega
      generalize bs2.length = sd at *
      go_enter Tryd.func13, Tryd.ntmps13
      go_wp2_with fail
      refine (drawTT_any _ _ _ h).mono ?_
      rintro e w0 ⟨v0, fs, r, rfl, ho, hlen, hok, hb0⟩
      have hs0 : Fts 0 w0 v0 fs := ho.fts.mono (Nat.zero_le _)
      have ht0 := ht.below hb0
      obtain ⟨sa, sc, rfl, hlc, hcm⟩ := hs0.form
      unfold maxLen at hcm
      obtain ⟨L, hL⟩ : ∃ L, ttrim fs r = L := ⟨_, rfl⟩
      go_wp2_with fail
      refine (implTrimTail_e hs0 ht0 hL).mono ?_
      rintro e w1 ⟨v1, rfl, ho1, hb1⟩
      have hs1 := hs0.below hb1
      have hx1 := ho1.fts
      have hw1 := hb0.trans (hb1.mono hb0.size)
      obtain ⟨xa, xc, rfl, hxc, hxm⟩ := hx1.form
      unfold maxLen at hxm
      go_wp2_with fail
      refine (specTrimTail_e hs1 (drawn_ftN hlen hok) hL).mono ?_
      rintro e w2 ⟨v2', rfl, hy2, hb2⟩
      have hs2 := hs1.below hb2
      have hx2 := hx1.below hb2
      have hw2 := hw1.trans (hb2.mono hw1.size)
      obtain ⟨ya, yc, rfl, hyc, hym⟩ := hy2.form
      unfold maxLen at hym
      clear hb1 hb2 hs1 hx1 ho1 ho hs0
      go_wp2_with fail
      refine (sameFlats_e hx2 hy2).mono ?_
      rintro e w3 ⟨rfl, hb3⟩
      have hs3 := hs2.below hb3
      have hx3 := hx2.below hb3
      have hw3 := hw2.trans (hb3.mono hw2.size)
      have ht3 := ht.below hw3
      clear hb3 hs2 hx2 hy2 ht0
      cases hv : fvalid fs
      · have hL0 : L = [] := by rw [← hL, ttrim, hv]; rfl
        subst hL0
        go_wp2_with fail
        refine (specFV_b hs3 hv).mono ?_
        rintro e w4 ⟨rfl, hb4⟩
        have hw4 := hw3.trans (hb4.mono hw3.size)
        go_wp2_with fail
        refine (alive_any _).mono ?_
        rintro e w5 ⟨rfl, hb5⟩
        have hw5 := hw4.trans (hb5.mono hw4.size)
        go_wp2
        go_ret
        exact ⟨rfl, hw5⟩
      · obtain ⟨m, hm⟩ : ∃ m, tcut fs r fs.length = m := ⟨_, rfl⟩
        have hml : m ≤ fs.length := by rw [← hm]; exact tcut_le _ _ _
        have hLm : L = fs.take m := by rw [← hL, ttrim, hv, ← hm]; rfl
        have hLl : L.length = m := by rw [hLm, List.length_take]; omega
        rw [hLl] at hx3 hxc ⊢
        have HL := Lib.hid hLl
        clear hLl
        have hLt := fun m' g => (tcut_all fs r fs.length).2 m' g (Nat.le_refl _)
        have hpb : ∀ (k' : Nat) b', (fbx fs)[k']? = some b' → b'.length ≤ 100 ∧ ∀ (j : Nat) xs, b'[j]? = some xs → xs.length ≤ 1000 := fun k' b' hb' => by
          rw [fbx, hv] at hb'
          simp only [if_true, fboxes, List.getElem?_map, Option.map_eq_some_iff] at hb'
          obtain ⟨f, hf, rfl⟩ := hb'
          exact ⟨by have := (hok k' f hf).1; omega, fun j xs hx => by have := (hok k' f hf).2 j xs hx; omega⟩
        have hpl : (fbx fs).length ≤ 100 := by
          rw [fbx, hv]; simp [fboxes]; omega
        go_wp2_with fail
        refine (specFV_b hs3 hv).mono ?_
        rintro e w6 ⟨rfl, hb6⟩
        have hw6 := hw3.trans (hb6.mono hw3.size)
        go_wp2_with fail
        refine (implFB_any fs _ _ (hs3.below hb6) (ht3.below hb6)).mono ?_
        rintro e w4 ⟨v4, rfl, hx4, hb4⟩
        have hw4 := hw6.trans (hb4.mono hw6.size)
        go_wp2_with fail
        refine (probe_any (fbx fs) v4 sd _ hx4 hsd hpl hpb).mono ?_
        rintro e w5 ⟨⟨pa, pb, pc, pd⟩, rfl, hb5⟩
        have hw5 := hw4.trans (hb5.mono hw4.size)
        have hal6 : Below w5.heap.size w5 (w5.alloc (.cells #[.int .i64 pa, .int .i64 pb, .int .i64 pc, .int .i64 pd] 40)) := (Below.refl _ _).alloc (Nat.le_refl _) _
        obtain ⟨W, hW⟩ : ∃ W, w5.alloc (.cells #[.int .i64 pa, .int .i64 pb, .int .i64 pc, .int .i64 pd] 40) = W := ⟨_, rfl⟩
        have r0 : W.cell? ⟨w5.heap.size, 0, none⟩ = some (.int .i64 pa) := by rw [← hW]; simp
        have r1 : W.cell? ⟨w5.heap.size, 1, none⟩ = some (.int .i64 pb) := by rw [← hW]; simp
        have r2 : W.cell? ⟨w5.heap.size, 2, none⟩ = some (.int .i64 pc) := by rw [← hW]; simp
        have r3 : W.cell? ⟨w5.heap.size, 3, none⟩ = some (.int .i64 pd) := by rw [← hW]; simp
        have qs : w5.heap.size < W.heap.size := by rw [← hW]; simp
        rw [hW] at hal6
        have hw9 := hw5.trans (hal6.mono hw5.size)
        have hx9 := ((hx3.below hb6).below hb4).below hb5
        have HS := Lib.hid ((((hs3.below hb6).below hb4).below hb5).below hal6)
        have HX := Lib.hid (hx9.below hal6)
        have HT := Lib.hid ((((ht3.below hb6).below hb4).below hb5).below hal6)
        have HTK := Lib.hid (HS.out.take (k := m) hml)
        rw [← hLm] at HTK
        obtain ⟨jq, hj1⟩ : ∃ jq, jfl L r ⟨pa, pb, pc, pd⟩ = jq := ⟨_, rfl⟩
        have hj2 : jfl fs r ⟨pa, pb, pc, pd⟩ = jq := by rw [← hj1, ← hL, jfl_trim _ _ _ hv]
        have hjq : (jq == jq) = true := by cases jq <;> rfl
        generalize hn : fs.length = n at *
        have k2 : (m : Int) ≤ (n : Int) := by omega
        have k3 : (0 : Int) ≤ (m : Int) := by omega
        clear hb4 hb5 hx4 ht3 hs3 hx3 hb6
        cases m with
        | zero =>
          clear hx9 hLt
          go_wp2_with fail
          refine wp_region_over (by kernel_rfl) (by kernel_rfl) (fun ov => ?_); have ov0 := fun x => ov x (w5.heap.size) (by (try simp) <;> omega); clear ov; (iterate 9 (iterate 8 (try go_big_quiet_step (first | (go_at_call 63; with_reducible exact callsOver (implJF_b (HX.out.below (over_below _ _)) (HT.out.below (over_below _ _)) hj1)) | (go_at_call 63; with_reducible exact callsOver (implJF_b (HS.out.below (over_below _ _)) (HT.out.below (over_below _ _)) hj2)) | (go_at_call 61; with_reducible exact callsOver (sameFlats_e (HX.out.below (over_below _ _)) (HTK.out.below (over_below _ _)))))))); refine wpQuiet_nil ?_; intro wa hw9; have hb_wa := below_over hw9; clear hw9 ov0
          have hwa := hw9.trans (hb_wa.mono hw9.size)
          go_wp2
          go_ret
          exact ⟨rfl, hwa⟩
        | succ m =>
          obtain ⟨f, hf⟩ : ∃ f, L[m]? = some f := ⟨_, List.getElem?_eq_getElem (by rw [HL.out]; omega)⟩
          obtain ⟨b, o, sv, rfl, hbl, -, d1, -⟩ := hx9.at hf
          have hfa : f.acc ≠ r := hLt m f hm (by rw [hLm, List.getElem?_take_of_lt (by omega)] at hf; exact hf)
          have hne : (f.acc == r) = false := by simpa using hfa
          generalize f.acc = fa at *
          replace d1 := (hal6.cell (p := ⟨b, o + m * 2 + 1, none⟩) hbl).trans d1
          have k4 : ((m + 1 : Nat) : Int) = (m : Int) + 1 := by omega
          have k5 : (m : Int) + 1 ≤ (n : Int) := by omega
          have k6 : decide ((m : Int) + 1 ≤ (n : Int)) = true := decide_eq_true k5
          have k7 : decide (((m + 1 : Nat) : Int) ≤ (n : Int)) = true := decide_eq_true (by omega)
          have k8 : (((m + 1 : Nat) : Int) == 0) = false := by simp; omega
          have k9 : (((m : Int) + 1) == 0) = false := by simp; omega
          clear hx9 hLt hf
          go_wp2_with fail
          refine wp_region_over (by kernel_rfl) (by kernel_rfl) (fun ov => ?_); have ov0 := fun x => ov x (b) (by (try simp) <;> omega); have ov1 := fun x => ov x (w5.heap.size) (by (try simp) <;> omega); clear ov; (iterate 9 (iterate 8 (try go_big_quiet_step (first | (go_at_call 63; with_reducible exact callsOver (implJF_b (HX.out.below (over_below _ _)) (HT.out.below (over_below _ _)) hj1)) | (go_at_call 63; with_reducible exact callsOver (implJF_b (HS.out.below (over_below _ _)) (HT.out.below (over_below _ _)) hj2)) | (go_at_call 61; with_reducible exact callsOver (sameFlats_e (HX.out.below (over_below _ _)) (HTK.out.below (over_below _ _)))))))); refine wpQuiet_nil ?_; intro wa hw9; have hb_wa := below_over hw9; clear hw9 ov0 ov1
          have hwa := hw9.trans (hb_wa.mono hw9.size)
          go_wp2
          go_ret
          exact ⟨rfl, hwa⟩
end Go.Proofs.YtpobfelgnpipkaaDoor
