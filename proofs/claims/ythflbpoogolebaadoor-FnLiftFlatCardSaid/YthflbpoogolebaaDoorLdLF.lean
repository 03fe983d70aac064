/- The law FnLiftFlat: the walk. -/
import Derived.Test.YthflbpoogolebaaDoorDxB
import Derived.Test.YthflbpoogolebaaDoorLiW
namespace Go.Proofs.YthflbpoogolebaaDoor
open Go.RowKit
theorem lift1_facts : ∀ (n : Nat) (fs L : List Ft) (a : Nat), fvalid fs = true → n < fs.length → lift1 n fs = (L, a) → a ≤ n ∧ L[a]? = fs[n]? ∧ cansw L ((a : Int) - 1) = false ∧ ∀ r p, jfl L r p = jfl fs r p
  | 0, fs, L, a, hv, hn, h => by
    obtain ⟨rfl, rfl⟩ := Prod.mk.inj h
    exact ⟨Nat.le_refl _, rfl, Bool.eq_false_iff.2 (fun h => by have := (cansw_range h).2.1; omega), fun _ _ => rfl⟩
  | n + 1, fs, L, a, hv, hn, h => by
    cases hc : cansw fs n
    · rw [lift1_no hc] at h
      obtain ⟨rfl, rfl⟩ := Prod.mk.inj h
      exact ⟨Nat.le_refl _, rfl, by rw [show ((n + 1 : Nat) : Int) - 1 = (n : Int) by omega]; exact hc, fun _ _ => rfl⟩
    · rw [lift1_yes hc] at h
      obtain ⟨h1, h2, h3, h4⟩ := lift1_facts n (swapAt fs n) L a (swapAt_fvalid hv n) (by rw [swapAt_len]; omega) h
      exact ⟨by omega, by rw [h2, swapAt_get _ _ _ hn, if_pos rfl], h3, fun r p => (h4 r p).trans (jfl_swap hc r p)⟩
theorem lift_cases (fs : List Ft) (n : Int) : (lift fs n = ([], -1)) ∨ ∃ (k a : Nat) (f : Ft) (L : List Ft), n = (k : Int) ∧ lift fs n = (L, (a : Int)) ∧ fvalid fs = true ∧ fvalid L = true ∧ k < fs.length ∧ L.length = fs.length ∧ a ≤ k ∧ L[a]? = some f ∧ fs[k]? = some f ∧ cansw L ((a : Int) - 1) = false ∧ ∀ r p, jfl L r p = jfl fs r p := by
  cases h : fvalid fs && inB n 0 ((fs.length : Int) - 1)
  · left; unfold lift; rw [h]; rfl
  · right
    have e : lift fs n = ((lift1 n.toNat fs).1, ((lift1 n.toNat fs).2 : Int)) := by unfold lift; rw [h]; rfl
    rw [Bool.and_eq_true, inB_iff] at h
    obtain ⟨hv, h0, h1⟩ := h
    obtain ⟨k, rfl⟩ := Int.eq_ofNat_of_zero_le h0
    have hk : k < fs.length := by omega
    obtain ⟨f, hf⟩ : ∃ f, fs[k]? = some f := ⟨_, List.getElem?_eq_getElem hk⟩
    obtain ⟨g1, g2, g3, g4⟩ := lift1_facts k fs _ _ hv hk rfl
    have hL := lift_valid fs (k : Int)
    rw [e] at hL
    exact ⟨k, (lift1 k fs).2, f, (lift1 k fs).1, rfl, e, hv, hL, hk, lift1_len k fs, g1, by rw [g2, hf], hf, g3, g4⟩
theorem SlFr.one {α : Type} {lo sz : Nat} {enc : α → List Value} {w : World} {b o n cap k : Nat} {x : α} {xs : List α} (h : SlFr lo sz enc w (.slice (some ⟨b, o, none⟩) n cap) xs) (hk : xs[k]? = some x) : SlFr lo sz enc w (.slice (some ⟨b, o + k * sz, none⟩) 1 (cap - k)) [x] := by
  obtain ⟨a', cap', he, h1, h2, hx⟩ := h
  obtain ⟨rfl, rfl, rfl⟩ := Value.slice.inj he
  have hl := (List.getElem?_eq_some_iff.1 hk).1
  refine ⟨_, _, rfl, by simp; omega, by omega, fun j y hj => ?_⟩
  cases j with
  | succ j => simp at hj
  | zero =>
    simp at hj
    subst hj
    obtain ⟨b', o', e1, e2, e3, e4⟩ := hx k x hk
    cases e1
    exact ⟨_, _, rfl, e2, e3, by simpa using e4⟩
theorem Fts.one {lo : Nat} {w : World} {b o n cap k : Nat} {f : Ft} {fs : List Ft} (h : Fts lo w (.slice (some ⟨b, o, none⟩) n cap) fs) (hk : fs[k]? = some f) : Fts lo w (.slice (some ⟨b, o + k * 2, none⟩) 1 (cap - k)) [f] := by
  obtain ⟨rs, h1, h2⟩ := h
  obtain ⟨r, hr, hs⟩ := h2.left hk
  exact ⟨[r], h1.one hr, All2.nil.snoc hs⟩
set_option maxHeartbeats 1000000 in
theorem drawLF_any (bs : List Int) (v : Value) (w : World) (h : CodeAt w v bs) : Calls Tryd.prog 14 #[v] w (DrewLP w) := by
  go_enter Tryd.func14, Tryd.ntmps14
  go_wp2_with fail
  refine (drawLP_any bs _ _ h).mono ?_
  rintro e w1 ⟨v1, fs, n, rfl, h1, h2, h3⟩
  go_wp2
  go_ret2
  exact ⟨_, fs, n, rfl, h1, h2, h3⟩
set_option maxHeartbeats 4000000 in
set_option maxRecDepth 100000 in
theorem law_FnLiftFlat (bs bs2 : List Int) (v v2 : Value) (w : World) (h : CodeAt w v bs) (h2 : CodeAt w v2 bs2) (ht : Tab w) :
    Calls Tryd.prog 4 #[v, v2] w fun e w' => e = .returned (.bool true) ∧ Below w.heap.size w w' := by
  obtain ⟨a, cap, rfl, l1, l2, -⟩ := code_cells h
  obtain ⟨a2, cap2, rfl, m1, m2, -⟩ := code_cells h2
  unfold maxLen at l2 m2
  by_cases hl : 1048576 < bs.length
  · go_enter Tryd.func4, Tryd.ntmps4
    go_wp2
    go_ret
    exact ⟨rfl, by (repeat' (first | with_reducible exact Below.refl _ _ | with_reducible assumption | with_reducible refine Below.setCell ?_ ?_ _ | with_reducible refine Below.alloc ?_ ?_ _ | with_reducible refine Below.drew ?_ | with_reducible refine belDrewN ?_ _ | with_reducible refine Below.trans ?_ (Below.mono (by assumption) ?_) | omega | (simp; omega) | (simp; done)))⟩
  · by_cases hl2 : 1048576 < bs2.length
    · go_enter Tryd.func4, Tryd.ntmps4
      go_wp2
      go_ret
      exact ⟨rfl, by (repeat' (first | with_reducible exact Below.refl _ _ | with_reducible assumption | with_reducible refine Below.setCell ?_ ?_ _ | with_reducible refine Below.alloc ?_ ?_ _ | with_reducible refine Below.drew ?_ | with_reducible refine belDrewN ?_ _ | with_reducible refine Below.trans ?_ (Below.mono (by assumption) ?_) | omega | (simp; omega) | (simp; done)))⟩
    · have hsd : bs2.length ≤ 1048576 := by omega
      generalize bs2.length = sd at *
      go_enter Tryd.func4, Tryd.ntmps4
      go_wp2_with fail
      refine (drawLF_any _ _ _ h).mono ?_
      rintro e w0 ⟨v0, fs, n, rfl, ⟨ho, hlen, hok, hb0⟩, hn0, hn1⟩
      have hs0 : Fts 0 w0 v0 fs := ho.fts.mono (Nat.zero_le _)
      have ht0 := ht.below hb0
      obtain ⟨sa, sc, rfl, hlc, hcm⟩ := hs0.form
      unfold maxLen at hcm
      obtain ⟨L, hL⟩ : ∃ L, (lift fs n).1 = L := ⟨_, rfl⟩
      obtain ⟨q, hq⟩ : ∃ q, (lift fs n).2 = q := ⟨_, rfl⟩
      have hcs := lift_cases fs n
      go_wp2_with fail
      refine (implLiftFlat_e hs0 ht0 hL hq).mono ?_
      rintro e w1 ⟨v1, rfl, ho1, hb1⟩
      have hs1 := hs0.below hb1
      have hx1 := ho1.fts
      have hw1 := hb0.trans (hb1.mono hb0.size)
      obtain ⟨xa, xc, rfl, hxc, hxm⟩ := hx1.form
      unfold maxLen at hxm
      go_wp2_with fail
      refine (specLiftFlat_e hs1 (drawn_ftN hlen hok) hL hq).mono ?_
      rintro e w2 ⟨v2', rfl, hy2, hb2⟩
      have hs2 := hs1.below hb2
      have hx2 := hx1.below hb2
      have hw2 := hw1.trans (hb2.mono hw1.size)
      obtain ⟨ya, yc, rfl, hyc, hym⟩ := hy2.form
      unfold maxLen at hym
      clear hb1 hb2 hs1 hx1 ho1 ho hs0
      go_wp2_with fail
      refine (sameFlats_e hx2 hy2).mono ?_
      rintro e w3 ⟨rfl, hb3⟩
      have hs3 := hs2.below hb3
      have hx3 := hx2.below hb3
      have hw3 := hw2.trans (hb3.mono hw2.size)
      have ht3 := ht.below hw3
      clear hb3 hs2 hx2 hy2 ht0
      rcases hcs with he | ⟨k, a, f, L', rfl, he, hv, hLv, hk, hLl, hak, hLa, hfk, hcs, hjj⟩
      · rw [he] at hL hq
        subst hL hq
        go_wp2_with fail
        refine (alive_any _).mono ?_
        rintro e w4 ⟨rfl, hb4⟩
        have hw4 := hw3.trans (hb4.mono hw3.size)
        go_wp2
        go_ret
        exact ⟨rfl, hw4⟩
      · rw [he] at hL hq
        obtain rfl : L' = L := hL
        subst hq
        rw [hLl] at hx3 hxc ⊢
        have hLl' := Lib.hid hLl
        clear hLl
        have j0 : ¬ (a : Int) < 0 := by omega
        have hpb : ∀ (k' : Nat) b', (fbx fs)[k']? = some b' → b'.length ≤ 100 ∧ ∀ (j : Nat) xs, b'[j]? = some xs → xs.length ≤ 1000 := fun k' b' hb' => by
          rw [fbx, hv] at hb'
          simp only [if_true, fboxes, List.getElem?_map, Option.map_eq_some_iff] at hb'
          obtain ⟨f, hf, rfl⟩ := hb'
          exact ⟨by have := (hok k' f hf).1; omega, fun j xs hx => by have := (hok k' f hf).2 j xs hx; omega⟩
        have hpl : (fbx fs).length ≤ 100 := by
          rw [fbx, hv]; simp [fboxes]; omega
        obtain ⟨rb, hrb⟩ : ∃ rb : Bool, (((sd : Int) % 2) == 0) = rb := ⟨_, rfl⟩
        go_wp2_with fail
        refine (implFB_any fs _ _ hs3 ht3).mono ?_
        rintro e w4 ⟨v4, rfl, hx4, hb4⟩
        have hw4 := hw3.trans (hb4.mono hw3.size)
        go_wp2_with fail
        refine (probe_any (fbx fs) v4 sd _ hx4 hsd hpl hpb).mono ?_
        rintro e w5 ⟨⟨pa, pb, pc, pd⟩, rfl, hb5⟩
        have hw5 := hw4.trans (hb5.mono hw4.size)
        have hal6 : Below w5.heap.size w5 (w5.alloc (.cells #[.int .i64 pa, .int .i64 pb, .int .i64 pc, .int .i64 pd] 31)) := (Below.refl _ _).alloc (Nat.le_refl _) _
        obtain ⟨W, hW⟩ : ∃ W, w5.alloc (.cells #[.int .i64 pa, .int .i64 pb, .int .i64 pc, .int .i64 pd] 31) = W := ⟨_, rfl⟩
        have r0 : W.cell? ⟨w5.heap.size, 0, none⟩ = some (.int .i64 pa) := by rw [← hW]; simp
        have r1 : W.cell? ⟨w5.heap.size, 1, none⟩ = some (.int .i64 pb) := by rw [← hW]; simp
        have r2 : W.cell? ⟨w5.heap.size, 2, none⟩ = some (.int .i64 pc) := by rw [← hW]; simp
        have r3 : W.cell? ⟨w5.heap.size, 3, none⟩ = some (.int .i64 pd) := by rw [← hW]; simp
        have qs : w5.heap.size < W.heap.size := by rw [← hW]; simp
        rw [hW] at hal6
        have hw9 := hw5.trans (hal6.mono hw5.size)
        have hs9 := (hs3.below hb4).below hb5
        have hx9 := (hx3.below hb4).below hb5
        obtain ⟨b1, o1, s1, rfl, hbl1, -, -, -⟩ := hx9.at hLa
        obtain ⟨b2, o2, s2, rfl, hbl2, -, -, -⟩ := hs9.at hfk
        have HS := Lib.hid (hs9.below hal6)
        have HX := Lib.hid (hx9.below hal6)
        have HT := Lib.hid (((ht3.below hb4).below hb5).below hal6)
        have HO := Lib.hid ((hx9.one hLa).below hal6)
        have HP := Lib.hid ((hs9.one hfk).below hal6)
        obtain ⟨jq, hj1⟩ : ∃ jq, jfl L' rb ⟨pa, pb, pc, pd⟩ = jq := ⟨_, rfl⟩
        have hj2 : jfl fs rb ⟨pa, pb, pc, pd⟩ = jq := by rw [← hj1, hjj]
        have hjq : (jq == jq) = true := by cases jq <;> rfl
        have k1 : (a : Int) ≤ (k : Int) := by omega
        have k2 : (k : Int) + 1 ≤ (fs.length : Int) := by omega
        have k3 : (a : Int) + 1 ≤ (fs.length : Int) := by omega
        clear hb4 hb5 hx4 hs9 hx9 ht3 hs3 hx3 hjj
        go_wp2_with fail
        refine wp_region_over (by kernel_rfl) (by kernel_rfl) (fun ov => ?_); have ov0 := fun x => ov x (w5.heap.size) (by (try simp) <;> omega); clear ov; (iterate 9 (iterate 8 (try go_big_quiet_step (first | (go_at_call 13; with_reducible exact callsOver (implJF_b (HX.out.below (over_below _ _)) (HT.out.below (over_below _ _)) hj1)) | (go_at_call 13; with_reducible exact callsOver (implJF_b (HS.out.below (over_below _ _)) (HT.out.below (over_below _ _)) hj2)) | (go_at_call 9; with_reducible exact callsOver (sameFlats_e (HO.out.below (over_below _ _)) (HP.out.below (over_below _ _)))) | (go_at_call 17; with_reducible exact callsOver (implCS_b (HX.out.below (over_below _ _)) (HT.out.below (over_below _ _)) hcs)))))); refine wpQuiet_nil ?_; intro wa hw9; have hb_wa := below_over hw9; clear hw9 ov0
        have hwa := hw9.trans (hb_wa.mono hw9.size)
        go_wp2
        go_ret
        exact ⟨rfl, hwa⟩
end Go.Proofs.YthflbpoogolebaaDoor
