/- The exact law on ByHits: the walk. -/
import Derived.Test.YtojafgooobpoiaaDoorLiW
namespace Go.Proofs.YtojafgooobpoiaaDoor
open Go.RowKit
/-- A list in another order. -/
def arrI (cs : List Int) (o : List Nat) : List Int := o.filterMap fun i => cs[i]?
theorem arrI_get {cs : List Int} : ∀ {o : List Nat}, (∀ i ∈ o, i < cs.length) → ∀ {k i : Nat}, o[k]? = some i → (arrI cs o)[k]? = cs[i]?
  | [], _, k, i, h => by simp at h
  | x :: o, hb, 0, i, h => by
    simp at h
    subst h
    have hx := hb x (by simp)
    unfold arrI
    rw [List.filterMap_cons, List.getElem?_eq_getElem hx]
    rfl
  | x :: o, hb, k + 1, i, h => by
    have hx := hb x (by simp)
    have ih := arrI_get (cs := cs) (o := o) (fun i hi => hb i (by simp [hi])) (k := k) (i := i) (by simpa using h)
    unfold arrI at ih ⊢
    rw [List.filterMap_cons, List.getElem?_eq_getElem hx]
    simpa using ih
theorem arrI_len {cs : List Int} : ∀ {o : List Nat}, (∀ i ∈ o, i < cs.length) → (arrI cs o).length = o.length
  | [], _ => rfl
  | x :: o, hb => by
    have hx := hb x (by simp)
    have ih := arrI_len (cs := cs) (o := o) (fun i hi => hb i (by simp [hi]))
    unfold arrI at ih ⊢
    rw [List.filterMap_cons, List.getElem?_eq_getElem hx]
    simp [ih]
theorem arrI_range (cs : List Int) : arrI cs (List.range cs.length) = cs := by
  have hb : ∀ i ∈ List.range cs.length, i < cs.length := fun i hi => List.mem_range.1 hi
  refine ext_get (by rw [arrI_len hb, List.length_range]) (fun k hk => ?_)
  rw [arrI_len hb, List.length_range] at hk
  rw [arrI_get hb (k := k) (i := k) (by simp [hk])]
theorem arrI_swap {cs : List Int} {o : List Nat} (hb : ∀ i ∈ o, i < cs.length) {k : Nat} (hk : k + 1 < o.length) : arrI cs (swapAt o k) = swapAt (arrI cs o) k := by
  have hb2 := swapAt_bound (k := k) hb
  refine ext_get (by rw [arrI_len hb2, swapAt_len, swapAt_len, arrI_len hb]) (fun j hj => ?_)
  rw [arrI_len hb2, swapAt_len] at hj
  rw [swapAt_get _ _ _ (by rw [arrI_len hb]; exact hk)]
  obtain ⟨z, hz⟩ : ∃ z, (swapAt o k)[j]? = some z := ⟨_, List.getElem?_eq_getElem (by rw [swapAt_len]; exact hj)⟩
  rw [arrI_get hb2 hz]
  rw [swapAt_get _ _ _ hk] at hz
  by_cases h1 : j = k
  · rw [if_pos h1] at hz ⊢; rw [arrI_get hb hz]
  · by_cases h2 : j = k + 1
    · rw [if_neg h1, if_pos h2] at hz ⊢; rw [arrI_get hb hz]
    · rw [if_neg h1, if_neg h2] at hz ⊢; rw [arrI_get hb hz]
/-- One rule moved up as long as its count is greater and that is possible. -/
def bub : Nat → List Ft → List Int → List Ft × List Int
  | 0, L, c => (L, c)
  | n + 1, L, c => if decide (c.getD n 0 < c.getD (n + 1) 0) && cansw L n then bub n (swapAt L n) (swapAt c n) else (L, c)
def bys (fs : List Ft) (cs : List Int) : Nat → List Ft × List Int
  | 0 => (fs, cs)
  | k + 1 => bub k (bys fs cs k).1 (bys fs cs k).2
def cvalid (fs : List Ft) (cs : List Int) : Bool := decide (cs.length = fs.length) && cs.all fun c => decide (0 ≤ c)
def byh (fs : List Ft) (cs : List Int) : List Ft := if fvalid fs && cvalid fs cs then (bys fs cs fs.length).1 else []
theorem bub_yes {n : Nat} {L : List Ft} {c : List Int} {x y : Int} (hx : c[n]? = some x) (hy : c[n + 1]? = some y) (h : x < y) (hc : cansw L n = true) : bub (n + 1) L c = bub n (swapAt L n) (swapAt c n) := by
  conv => lhs; unfold bub
  rw [List.getD_eq_getElem?_getD, List.getD_eq_getElem?_getD, hx, hy, hc]
  simp [h]
theorem bub_no {n : Nat} {L : List Ft} {c : List Int} {x y : Int} (hx : c[n]? = some x) (hy : c[n + 1]? = some y) (h : ¬ x < y ∨ cansw L n = false) : bub (n + 1) L c = (L, c) := by
  conv => lhs; unfold bub
  rw [List.getD_eq_getElem?_getD, List.getD_eq_getElem?_getD, hx, hy]
  rcases h with h | h
  · simp [h]
  · simp [h]
theorem bub_inv : ∀ (n : Nat) (L : List Ft) (c : List Int), (bub n L c).1.length = L.length ∧ (bub n L c).2.length = c.length ∧ (∀ g ∈ (bub n L c).1, g ∈ L) ∧ (∀ j, n < j → (bub n L c).2[j]? = c[j]?)
  | 0, L, c => ⟨rfl, rfl, fun _ h => h, fun _ _ => rfl⟩
  | n + 1, L, c => by
    unfold bub
    split
    · obtain ⟨h1, h2, h3, h4⟩ := bub_inv n (swapAt L n) (swapAt c n)
      refine ⟨by rw [h1, swapAt_len], by rw [h2, swapAt_len], fun g hg => swapAt_mem (h3 g hg), fun j hj => ?_⟩
      rw [h4 j (by omega)]
      by_cases hl : n + 1 < c.length
      · rw [swapAt_get _ _ _ hl, if_neg (by omega), if_neg (by omega)]
      · rw [List.getElem?_eq_none (by rw [swapAt_len]; omega), List.getElem?_eq_none (by omega)]
    · exact ⟨rfl, rfl, fun _ h => h, fun _ _ => rfl⟩
theorem bys_inv (fs : List Ft) (cs : List Int) : ∀ k, (bys fs cs k).1.length = fs.length ∧ (bys fs cs k).2.length = cs.length ∧ (∀ g ∈ (bys fs cs k).1, g ∈ fs) ∧ (∀ j, k ≤ j → (bys fs cs k).2[j]? = cs[j]?)
  | 0 => ⟨rfl, rfl, fun _ h => h, fun _ _ => rfl⟩
  | k + 1 => by
    obtain ⟨h1, h2, h3, h4⟩ := bys_inv fs cs k
    obtain ⟨g1, g2, g3, g4⟩ := bub_inv k (bys fs cs k).1 (bys fs cs k).2
    exact ⟨by rw [bys, g1, h1], by rw [bys, g2, h2], fun g hg => h3 g (g3 g hg), fun j hj => by rw [bys, g4 j (by omega), h4 j (by omega)]⟩
theorem bys_valid {fs : List Ft} {cs : List Int} (h : fvalid fs = true) (k : Nat) : fvalid (bys fs cs k).1 = true := by
  obtain ⟨h1, _, h3, _⟩ := bys_inv fs cs k
  exact fvalid_sub h (by rw [h1]; exact Nat.le_refl _) h3
theorem byh_valid (fs : List Ft) (cs : List Int) : fvalid (byh fs cs) = true := by
  unfold byh
  split
  · rename_i h
    rw [Bool.and_eq_true] at h
    exact bys_valid h.1 _
  · rfl
theorem cvalid_no {fs : List Ft} {cs : List Int} {k : Nat} {c : Int} (hx : cs[k]? = some c) (h : c < 0) : cvalid fs cs = false := by
  unfold cvalid
  rw [Bool.and_eq_false_iff]
  right
  rw [List.all_eq_false]
  exact ⟨c, List.mem_of_getElem? hx, by simp; omega⟩
theorem cvalid_len {fs : List Ft} {cs : List Int} (h : cs.length ≠ fs.length) : cvalid fs cs = false := by
  unfold cvalid
  rw [decide_eq_false h]
  rfl
theorem cvalid_yes {fs : List Ft} {cs : List Int} (h : cs.length = fs.length) (ha : ∀ (k : Nat) c, cs[k]? = some c → 0 ≤ c) : cvalid fs cs = true := by
  unfold cvalid
  rw [Bool.and_eq_true, List.all_eq_true]
  refine ⟨decide_eq_true h, fun c hc => ?_⟩
  obtain ⟨k, hk⟩ := List.getElem?_of_mem hc
  exact decide_eq_true (ha k c hk)
theorem byh_no {fs : List Ft} {cs : List Int} (h : fvalid fs = false ∨ cvalid fs cs = false) : byh fs cs = [] := by
  unfold byh
  rcases h with h | h
  · rw [h]; rfl
  · rw [h, Bool.and_false]; rfl
theorem byh_yes {fs : List Ft} {cs : List Int} (h : fvalid fs = true) (hc : cvalid fs cs = true) : byh fs cs = (bys fs cs fs.length).1 := by
  unfold byh
  rw [h, hc]
  rfl
/-- A list that a write into block g leaves as it is. -/
def FO (g : Nat) (w : World) (v : Value) (L : List Ft) : Prop := (∃ w0, w0.heap.size ≤ g ∧ Below w0.heap.size w0 w ∧ Fts 0 w0 v L) ∨ ∃ lo, g < lo ∧ Fts lo w v L
theorem FO.fts {g : Nat} {w : World} {v : Value} {L : List Ft} (h : FO g w v L) : Fts 0 w v L := by
  rcases h with ⟨w0, _, h2, h3⟩ | ⟨lo, _, h⟩
  · exact h3.below h2
  · exact h.mono (Nat.zero_le _)
theorem FO.below {g : Nat} {w w' : World} {v : Value} {L : List Ft} (h : FO g w v L) (hb : Below w.heap.size w w') : FO g w' v L := by
  rcases h with ⟨w0, h1, h2, h3⟩ | ⟨lo, h1, h⟩
  · exact .inl ⟨w0, h1, h2.trans (hb.mono h2.size), h3⟩
  · exact .inr ⟨lo, h1, h.below hb⟩
theorem FO.grown {g : Nat} {w w' : World} {v : Value} {L : List Ft} (h : FO g w v L) (hg : w.grownBy w' (some g)) : FO g w' v L := by
  rcases h with ⟨w0, h1, h2, h3⟩ | ⟨lo, h1, h⟩
  · exact .inl ⟨w0, h1, h2.grown hg h2.size (fun k hk => by cases hk; exact h1), h3⟩
  · exact .inr ⟨lo, h1, h.keep ⟨hg.size, fun k hk hlt => hg.block k hlt (fun e => by cases e; omega)⟩⟩
theorem specCS_n {fs : List Ft} {v : Value} {n : Nat} {w : World} {r : Bool} (hs : Fts 0 w v fs) (h : cansw fs n = r) :
    Calls Tryd.prog 69 #[v, .int .i64 (n : Int)] w fun e w' => e = .returned (.bool r) ∧ Below w.heap.size w w' := specCS_r hs h
set_option maxHeartbeats 8000000 in
set_option maxRecDepth 100000 in
theorem specByHits_e {lo : Nat} {fs R : List Ft} {cs : List Int} {v u : Value} {w : World} (hs : Fts lo w v fs) (hu : Ins w u cs) (hN : ftN fs ≤ 1048576) (h : byh fs cs = R) :
    Calls Tryd.prog 33 #[v, u] w fun e w' => ∃ v', e = .returned v' ∧ Fts 0 w' v' R ∧ Below w.heap.size w w' := by
  obtain ⟨ua, uc, rfl, hul, hum, -⟩ := id hu
  unfold maxLen at hum
  obtain ⟨m, hm⟩ : ∃ m, fs.length = m := ⟨_, rfl⟩
  obtain ⟨c, hc⟩ : ∃ c, cs.length = c := ⟨_, rfl⟩
  rw [hc] at hu hul ⊢
  have HM := Lib.hid hm
  have HC := Lib.hid hc
  have HR := Lib.hid h
  clear h
  cases hv : fvalid fs
  · have HE := Lib.hid ((byh_no (cs := cs) (.inl hv)).symm.trans HR.out)
    go_enter Tryd.func33, Tryd.ntmps33
    go_wp2_with fail
    refine (ownFlats_any fs v w hs hN).mono ?_
    rintro e w1 ⟨v1, rfl, ho1, hb1⟩
    have HF1 := Lib.hid ho1.fts
    clear ho1
    go_wp2_with fail
    refine (specFV_b HF1.out hv).mono ?_
    rintro e w2 ⟨rfl, hb2⟩
    have hw2 := hb1.trans (hb2.mono hb1.size)
    go_wp2
    go_ret
    refine ⟨_, rfl, ?_, hw2.alloc hw2.size _⟩
    rw [← HE.out]
    exact ⟨[], (OwnSl.fr (sz := 2) (enc := RF.enc) (fun _ => rfl) (litOwn 44 2 RF.enc (base := 0) (Nat.zero_le _))), All2.nil⟩
  · have HV := Lib.hid hv
    have hm60 : m ≤ 60 := by rw [← hm]; exact fvalid_60 hv
    go_enter Tryd.func33, Tryd.ntmps33
    go_wp2_with fail
    refine (ownFlats_any fs v w hs hN).mono ?_
    rintro e w1 ⟨v1, rfl, ho1, hb1⟩
    obtain ⟨a, cap, rfl, hlc, hcm⟩ := ho1.form
    unfold maxLen at hcm
    have HF1 := Lib.hid ho1.fts
    have hu1 := hu.below hb1
    rw [hm] at hlc HF1 ⊢
    clear ho1
    by_cases hcmm : c = m
    · subst hcmm
      have hceq : ((c : Int) == (c : Int)) = true := by simp
      have hcne : ((c : Int) != (c : Int)) = false := by simp
      go_wp2_with fail
      refine (specFV_b HF1.out hv).mono ?_
      rintro e w2 ⟨rfl, hb2⟩
      have hw2 := hb1.trans (hb2.mono hb1.size)
      have HF2 := Lib.hid (HF1.out.below hb2)
      obtain ⟨i0, hi, hz0, hz1, hz2⟩ := info_parts infoInt
      obtain ⟨v5, w5, hrun, ⟨rs5, ho5, ha5⟩, hb5⟩ := copyFts (k := c) HF2.out (Nat.le_refl _) (by omega)
      rw [List.take_of_length_le (by rw [HM.out]; exact Nat.le_refl _)] at ha5
      have hw5 := hw2.trans (hb5.mono hw2.size)
      have HF5 := Lib.hid (show Fts 0 w5 v5 fs from ⟨rs5, (OwnSl.fr (sz := 2) (enc := RF.enc) (fun _ => rfl) ho5).mono (Nat.zero_le _), ha5.mono (fun _ _ h => ⟨(h.1.mono (Nat.zero_le _)).below hb5, h.2⟩)⟩)
      have hu5 := (hu1.below hb2).below hb5
      have hq5 : Below w5.heap.size w5 (w5.alloc (.cells #[] 3)) := (Below.refl _ _).alloc (Nat.le_refl _) _
      obtain ⟨v6, w6, hrun6, ho6, hb6⟩ := run_append_copy (sz := 1) (enc := encI) (by omega) (fun _ => rfl) (P := Tryd.prog) (w := w5.alloc (.cells #[] 3)) 35 35 3 i0 _ 8 Tryd.underlying35 hi hz0 hz1 hz2 rfl ⟨w5.heap.size, 0, none⟩ (litOwn 3 1 encI (base := w5.heap.size) (w := w5) (Nat.le_refl _)) hq5.size (v := .slice ua c uc) (xs := cs) (Ins.below hu5 hq5) (by omega)
      replace hb6 : Below w5.heap.size w5 w6 := hq5.trans (hb6.mono hq5.size)
      have hw6 := hw5.trans (hb6.mono hw5.size)
      obtain ⟨a5, n5, c5, rfl⟩ : ∃ x n c, v5 = .slice x n c := by
        rcases OwnSl.form ho5 with ⟨h, _⟩ | ⟨g, cp, h, _⟩
        · exact ⟨_, _, _, h⟩
        · exact ⟨_, _, _, h⟩
      have HO6 := Lib.hid ho6
      have HB6 := Lib.hid hb6
      clear ha5 hb5 ho5 hu1 hu5 hb1 hb2 hs hN HF1 hv hu
      rcases OwnSl.form ho6 with ⟨rfl, h0⟩ | ⟨g6, cap6, rfl, hg1, hg2, hg3, hg4, hg5⟩
      · clear ho6
        go_wp2_with (at_builtin; first | (refine wpList_append_run rfl _ _ 23 rfl rfl rfl hrun ?_) | (refine wpList_append_run rfl _ _ 35 rfl rfl rfl hrun6 ?_))
        go_loopw [5, 7] (fun o i wr => o = .slice a5 n5 c5 ∧ i = .int .i64 0 ∧ wr = w6) (fun _ _ _ => 0)
        case atStart => exact ⟨rfl, rfl, rfl⟩
        case round =>
          obtain ⟨rfl, rfl, rfl⟩ := hrel
          have HE := Lib.hid (show fs = R by rw [← HR.out, byh_yes HV.out (cvalid_yes (by rw [h0, HM.out, ← HC.out, h0]) (fun k x hx => by rw [h0] at hx; simp at hx)), HM.out, ← HC.out, h0]; rfl)
          go_wp2
          go_ret
          exact ⟨_, rfl, by rw [← HE.out]; exact HF5.out.below HB6.out, hw6⟩
      · rw [HC.out] at hg3 hrun6
        clear ho6 hg5
        go_wp2_with (at_builtin; first | (refine wpList_append_run rfl _ _ 23 rfl rfl rfl hrun ?_) | (refine wpList_append_run rfl _ _ 35 rfl rfl rfl hrun6 ?_))
        have HC0 : Hid (FO g6 w6 (.slice a5 n5 c5) (bys fs cs 0).1) := Lib.hid (.inl ⟨w5, hg1, HB6.out, HF5.out⟩)
        rw [HC.out] at HO6
        go_loopw [5, 7] (fun o i wr => ∃ k : Nat, k ≤ c ∧ i = .int .i64 k ∧ Hid (FO g6 wr o (bys fs cs k).1 ∧ OwnIn w5.heap.size wr (.slice (some ⟨g6, 0, none⟩) c cap6) (bys fs cs k).2) ∧ Hid (∀ (j : Nat) x, j < k → cs[j]? = some x → 0 ≤ x) ∧ Below w.heap.size w wr) (fun _ i _ => c - (intOf i).toNat)
        case atStart => exact ⟨0, by omega, rfl, Lib.hid ⟨HC0.out, HO6.out⟩, Lib.hid (fun j x hj => by omega), hw6⟩
        case round =>
          obtain ⟨k, hk, rfl, HO, HK, hbr⟩ := hrel
          obtain ⟨b1, b2, -, b4⟩ := bys_inv fs cs k
          by_cases hlt : k < c
          · have i1 : (k : Int) < (c : Int) := by omega
            have i2 : (0 : Int) ≤ (k : Int) := by omega
            obtain ⟨x, hx⟩ : ∃ x, cs[k]? = some x := ⟨_, List.getElem?_eq_getElem (by rw [HC.out]; exact hlt)⟩
            have q0 := OwnSl.cell (sz := 1) (enc := encI) (fun _ => rfl) HO.out.2 ((b4 k (Nat.le_refl _)).trans hx) 0 _ rfl
            simp only [Nat.add_zero, Nat.mul_one] at q0
            by_cases hx0 : x < 0
            · have HE := Lib.hid ((byh_no (fs := fs) (.inr (cvalid_no hx hx0))).symm.trans HR.out)
              go_wp2
              go_ret
              refine ⟨_, rfl, ?_, hbr.alloc hbr.size _⟩
              rw [← HE.out]
              exact ⟨[], (OwnSl.fr (sz := 2) (enc := RF.enc) (fun _ => rfl) (litOwn 44 2 RF.enc (base := 0) (Nat.zero_le _))), All2.nil⟩
            have hx0d : decide (x < 0) = false := decide_eq_false hx0
            have HK2 := Lib.hid (show ∀ (j : Nat) x, j < k + 1 → cs[j]? = some x → 0 ≤ x from fun j z hj hz => by
              by_cases e : j = k
              · subst e; rw [hx] at hz; cases hz; omega
              · exact HK.out j z (by omega) hz)
            have HL0 := Lib.hid (And.intro (b1.trans HM.out) (b2.trans HC.out))
            clear hx
            go_wp2_with fail
            go_loopw [5, 8, 9, 10, 11] (fun o n _ _ _ wr => ∃ (q : Nat) (L : List Ft) (d : List Int), q ≤ k ∧ n = .int .i64 q ∧ Hid (FO g6 wr o L ∧ OwnIn w5.heap.size wr (.slice (some ⟨g6, 0, none⟩) c cap6) d) ∧ Hid (L.length = c ∧ d.length = c) ∧ Hid (fvalid L = true) ∧ Hid (bub q L d = bys fs cs (k + 1)) ∧ Below w.heap.size w wr) (fun _ n _ _ _ _ => (intOf n).toNat)
            case atStart => exact ⟨k, _, _, Nat.le_refl _, rfl, HO, HL0, Lib.hid (bys_valid HV.out k), Lib.hid rfl, hbr⟩
            case round =>
              obtain ⟨q, L, d, hq, rfl, HI, HL, HLV, HB, hbi⟩ := hrel
              have hg6 := (World.ownsRow.lt HI.out.2 g6 rfl).2
              by_cases h0 : 0 < q
              · obtain ⟨j, rfl⟩ : ∃ j, q = j + 1 := ⟨q - 1, by omega⟩
                have i3 : (0 : Int) ≤ (j : Int) := by omega
                have i4 : (0 : Int) < (j : Int) + 1 := by omega
                have i5 : (j : Int) < (c : Int) := by omega
                have i6 : (j : Int) + 1 < (c : Int) := by omega
                have i7 : (0 : Int) ≤ (j : Int) + 1 := by omega
                obtain ⟨x, hx⟩ : ∃ x, d[j]? = some x := ⟨_, List.getElem?_eq_getElem (by rw [HL.out.2]; omega)⟩
                obtain ⟨y, hy⟩ : ∃ y, d[j + 1]? = some y := ⟨_, List.getElem?_eq_getElem (by rw [HL.out.2]; omega)⟩
                have e0 := OwnSl.cell (sz := 1) (enc := encI) (fun _ => rfl) HI.out.2 hx 0 _ rfl
                have e1 := OwnSl.cell (sz := 1) (enc := encI) (fun _ => rfl) HI.out.2 hy 0 _ rfl
                simp only [Nat.add_zero, Nat.mul_one] at e0 e1
                have HXY := Lib.hid (And.intro hx hy)
                have HFF := Lib.hid HI.out.1.fts
                clear hx hy
                by_cases hxy : x < y
                · cases hc : cansw L (j : Int)
                  · have HE := Lib.hid ((bub_no HXY.out.1 HXY.out.2 (.inr hc)).symm.trans HB.out)
                    go_wp2_with fail
                    refine wp_region_over (by kernel_rfl) (by kernel_rfl) (fun ov => ?_); have ov0 := fun x => ov x (g6) (by (try simp) <;> omega); clear ov; (iterate 9 (iterate 8 (try go_big_quiet_step (first | (go_at_call 69; with_reducible exact callsOver (specCS_n (HFF.out.below (over_below _ _)) hc)))))); refine wpQuiet_nil ?_; intro w9 hw9; have hb_w9 := below_over hw9; clear hw9 ov0
                    have hw9 := hbi.trans (hb_w9.mono hbi.size)
                    have HI9 := Lib.hid (And.intro (HI.out.1.below hb_w9) (OwnSl.kept HI.out.2 hb_w9))
                    clear hb_w9 e0 e1
                    go_wp2
                    go_roundw
                    case rel => exact ⟨k + 1, by omega, by go_num, by rw [← HE.out]; exact HI9, HK2, hw9⟩
                    case measure => simp [intOf]; omega
                  · go_wp2_with fail
                    refine wp_region_over (by kernel_rfl) (by kernel_rfl) (fun ov => ?_); have ov0 := fun x => ov x (g6) (by (try simp) <;> omega); clear ov; (iterate 9 (iterate 8 (try go_big_quiet_step (first | (go_at_call 69; with_reducible exact callsOver (specCS_n (HFF.out.below (over_below _ _)) hc)))))); refine wpQuiet_nil ?_; intro w9 hw9; have hb_w9 := below_over hw9; clear hw9 ov0
                    have hw9 := hbi.trans (hb_w9.mono hbi.size)
                    have HI9 := Lib.hid (And.intro (HI.out.1.below hb_w9) (OwnSl.kept HI.out.2 hb_w9))
                    have hg9 : g6 < w9.heap.size := Nat.lt_of_lt_of_le hg6 hb_w9.size
                    have HE := Lib.hid ((bub_yes HXY.out.1 HXY.out.2 hxy hc).symm.trans HB.out)
                    clear hb_w9 e0 e1
                    go_wp2_with fail
                    refine (specSwapFlats_e HI9.out.1.fts (fvalid_ftN HLV.out) (swfl_yes hc) hc).mono ?_
                    rintro e w10 ⟨v10, rfl, ho10, hb10⟩
                    have hw10 := hw9.trans (hb10.mono hw9.size)
                    have hO10 := OwnSl.kept HI9.out.2 hb10
                    have e0 := OwnSl.cell (sz := 1) (enc := encI) (fun _ => rfl) hO10 HXY.out.1 0 _ rfl
                    have e1 := OwnSl.cell (sz := 1) (enc := encI) (fun _ => rfl) hO10 HXY.out.2 0 _ rfl
                    simp only [Nat.add_zero, Nat.mul_one] at e0 e1
                    have y9 : ∀ j, w10.frozen? ⟨g6, j, none⟩ = false := OwnSl.frz hO10
                    obtain ⟨hst7, hgr7⟩ := OwnSl.store (sz := 1) (enc := encI) (fun _ => rfl) HL.out.2.symm hO10 (k := j) (by rw [HL.out.2]; omega) y
                    obtain ⟨hst8, hgr8⟩ := OwnSl.store (sz := 1) (enc := encI) (fun _ => rfl) (by rw [List.length_set, HL.out.2]) hst7 (k := j + 1) (by rw [List.length_set, HL.out.2]; omega) x
                    rw [← swapAt_of HXY.out.1 HXY.out.2] at hst8
                    simp only [wSet, Nat.mul_one] at hst7 hgr7 hst8 hgr8
                    obtain ⟨W7, hW7⟩ : ∃ W7, w10.setCell ⟨g6, j, none⟩ (.int .i64 y) = W7 := ⟨_, rfl⟩
                    rw [hW7] at hst7 hgr7 hst8 hgr8
                    have f1 := OwnSl.cell (sz := 1) (enc := encI) (fun _ => rfl) hst7 (k := j + 1) (y := y) (by rw [List.getElem?_set, if_neg (by omega)]; exact HXY.out.2) 0 _ rfl
                    simp only [Nat.add_zero, Nat.mul_one] at f1
                    have y7 : ∀ j, W7.frozen? ⟨g6, j, none⟩ = false := OwnSl.frz hst7
                    obtain ⟨W8, hW8⟩ : ∃ W8, W7.setCell ⟨g6, j + 1, none⟩ (.int .i64 x) = W8 := ⟨_, rfl⟩
                    rw [hW8] at hst8 hgr8
                    have hFO : FO g6 W8 v10 (swapAt L j) := FO.grown (FO.grown (.inr ⟨w9.heap.size, hg9, ho10⟩) hgr7) hgr8
                    have hg5w : w.heap.size ≤ g6 := Nat.le_trans hw5.size hg1
                    have hB8 : Below w.heap.size w W8 := (hw10.grown hgr7 hw10.size (fun z hz => by cases hz; exact hg5w)).grown hgr8 (Nat.le_trans hw10.size hgr7.size) (fun z hz => by cases hz; exact hg5w)
                    have HFO := Lib.hid (And.intro hFO hst8)
                    have HL8 := Lib.hid (show (swapAt L j).length = c ∧ (swapAt d j).length = c from ⟨by rw [swapAt_len]; exact HL.out.1, by rw [swapAt_len]; exact HL.out.2⟩)
                    have HV8 := Lib.hid (show fvalid (swapAt L j) = true from fvalid_sub HLV.out (by rw [swapAt_len]; exact Nat.le_refl _) (fun g hg => swapAt_mem hg))
                    have HB8 := Lib.hid hB8
                    clear hst7 hst8 hgr7 hgr8 hFO hB8 ho10 hb10 hO10
                    go_wp2
                    go_roundw
                    case rel => exact ⟨j, swapAt L j, swapAt d j, by omega, by go_num, HFO, HL8, HV8, HE, HB8.out⟩
                    case measure => simp [intOf]
                · have HE := Lib.hid ((bub_no (L := L) HXY.out.1 HXY.out.2 (.inl hxy)).symm.trans HB.out)
                  have hxyd : decide (x < y) = false := decide_eq_false hxy
                  go_wp2_with fail
                  refine wp_region_over (by kernel_rfl) (by kernel_rfl) (fun ov => ?_); have ov0 := fun x => ov x (g6) (by (try simp) <;> omega); clear ov; (iterate 9 (iterate 8 (try go_big_quiet_step (first | fail)))); refine wpQuiet_nil ?_; intro w9 hw9; have hb_w9 := below_over hw9; clear hw9 ov0
                  have hw9 := hbi.trans (hb_w9.mono hbi.size)
                  have HI9 := Lib.hid (And.intro (HI.out.1.below hb_w9) (OwnSl.kept HI.out.2 hb_w9))
                  clear hb_w9 e0 e1
                  go_wp2
                  go_roundw
                  case rel => exact ⟨k + 1, by omega, by go_num, by rw [← HE.out]; exact HI9, HK2, hw9⟩
                  case measure => simp [intOf]; omega
              · obtain rfl : q = 0 := by omega
                have HE := Lib.hid (show (L, d) = bys fs cs (k + 1) from HB.out)
                go_wp2_with fail
                refine wp_region_over (by kernel_rfl) (by kernel_rfl) (fun ov => ?_); clear ov; (iterate 9 (iterate 8 (try go_big_quiet_step (first | fail)))); refine wpQuiet_nil ?_; intro w9 hw9; have hb_w9 := below_over hw9; clear hw9 
                have hw9 := hbi.trans (hb_w9.mono hbi.size)
                have HI9 := Lib.hid (And.intro (HI.out.1.below hb_w9) (OwnSl.kept HI.out.2 hb_w9))
                clear hb_w9
                go_wp2
                go_roundw
                case rel => exact ⟨k + 1, by omega, by go_num, by rw [← HE.out]; exact HI9, HK2, hw9⟩
                case measure => simp [intOf]; omega
          · have hkc : k = c := by omega
            subst hkc
            have HE := Lib.hid (show (bys fs cs k).1 = R by rw [← HR.out, byh_yes HV.out (cvalid_yes (by rw [HC.out, HM.out]) (fun j x hx => HK.out j x (by rw [← HC.out]; exact (List.getElem?_eq_some_iff.1 hx).1) hx)), HM.out])
            go_wp2
            go_ret
            exact ⟨_, rfl, by rw [← HE.out]; exact HO.out.1.fts, hbr⟩
    · have hne : ((c : Int) == (m : Int)) = false := by simpa using (by omega : (c : Int) ≠ m)
      have hne2 : ((c : Int) != (m : Int)) = true := by simpa using (by omega : (c : Int) ≠ m)
      have HE := Lib.hid ((byh_no (fs := fs) (.inr (cvalid_len (by rw [HC.out, HM.out]; exact hcmm)))).symm.trans HR.out)
      go_wp2_with fail
      refine (specFV_b HF1.out hv).mono ?_
      rintro e w2 ⟨rfl, hb2⟩
      have hw2 := hb1.trans (hb2.mono hb1.size)
      go_wp2
      go_ret
      refine ⟨_, rfl, ?_, hw2.alloc hw2.size _⟩
      rw [← HE.out]
      exact ⟨[], (OwnSl.fr (sz := 2) (enc := RF.enc) (fun _ => rfl) (litOwn 44 2 RF.enc (base := 0) (Nat.zero_le _))), All2.nil⟩
set_option maxHeartbeats 8000000 in
set_option maxRecDepth 100000 in
theorem implByHits_e {lo : Nat} {fs R : List Ft} {cs : List Int} {v u : Value} {w : World} (hs : Fts lo w v fs) (hu : Ins w u cs) (ht : Tab w) (h : byh fs cs = R) :
    Calls Tryd.prog 32 #[v, u] w fun e w' => ∃ v', e = .returned v' ∧ GFs w' w.heap.size w'.heap.size v' R ∧ Below w.heap.size w w' := by
  obtain ⟨a, cap, rfl, hlc, hcm⟩ := hs.form
  obtain ⟨ua, uc, rfl, hul, hum, -⟩ := id hu
  unfold maxLen at hcm hum
  obtain ⟨m, hm⟩ : ∃ m, fs.length = m := ⟨_, rfl⟩
  obtain ⟨c, hc⟩ : ∃ c, cs.length = c := ⟨_, rfl⟩
  rw [hm] at hs hlc ⊢
  rw [hc] at hu hul ⊢
  have HM := Lib.hid hm
  have HC := Lib.hid hc
  have HR := Lib.hid h
  have HU := Lib.hid hu
  clear hm hc hu
  cases hv : fvalid fs
  · have HE := Lib.hid ((byh_no (cs := cs) (.inl hv)).symm.trans HR.out)
    go_enter Tryd.func32, Tryd.ntmps32
    go_wp2_with fail
    refine (implFV_b hs ht hv).mono ?_
    rintro e w1 ⟨rfl, hb1⟩
    go_wp2
    go_ret
    refine ⟨_, rfl, ?_, hb1⟩
    rw [← HE.out]
    exact OwnG.nil (OwnSl.nil _ _ _ _ _) (fun z hz => by cases hz) hb1.size
  · have HV := Lib.hid hv
    have HRV := Lib.hid (show fvalid R = true by rw [← h]; exact byh_valid fs cs)
    have hm60 : m ≤ 60 := by rw [← HM.out]; exact fvalid_60 hv
    clear h
    by_cases hcm2 : c = m
    · subst hcm2
      have hceq : ((c : Int) == (c : Int)) = true := by simp
      go_enter Tryd.func32, Tryd.ntmps32
      go_wp2_with fail
      refine (implFV_b hs ht hv).mono ?_
      rintro e w1 ⟨rfl, hb1⟩
      have hs1 := hs.below hb1
      have hu1 := Lib.hid (HU.out.below hb1)
      clear hv
      go_wp2_with fail
      go_loopw [6, 26] (fun _ i wr => ∃ k : Nat, k ≤ c ∧ i = .int .i64 k ∧ Hid (∀ (j : Nat) x, j < k → cs[j]? = some x → 0 ≤ x) ∧ wr = w1) (fun _ i _ => c - (intOf i).toNat)
      case atStart => exact ⟨0, by omega, rfl, Lib.hid (fun j x hj => by omega), rfl⟩
      case round =>
        obtain ⟨k, hk, rfl, HK, rfl⟩ := hrel
        by_cases hlt : k < c
        · have i1 : (k : Int) < (c : Int) := by omega
          have i2 : (0 : Int) ≤ (k : Int) := by omega
          obtain ⟨b, o, x, rfl, hbl, hx, c0⟩ := hu1.out.at (show k < cs.length by rw [HC.out]; exact hlt)
          by_cases hx0 : x < 0
          · have HE := Lib.hid ((byh_no (fs := fs) (.inr (cvalid_no hx hx0))).symm.trans HR.out)
            clear hx
            go_wp2
            go_ret
            refine ⟨_, rfl, ?_, hb1⟩
            rw [← HE.out]
            exact OwnG.nil (OwnSl.nil _ _ _ _ _) (fun z hz => by cases hz) hb1.size
          · have hx0d : decide (x < 0) = false := decide_eq_false hx0
            have HK2 := Lib.hid (show ∀ (j : Nat) x, j < k + 1 → cs[j]? = some x → 0 ≤ x from fun j z hj hz => by
              by_cases e : j = k
              · subst e; rw [hx] at hz; cases hz; omega
              · exact HK.out j z (by omega) hz)
            clear hx
            go_wp2
            go_roundw
            case rel => exact ⟨k + 1, by omega, by go_num, HK2, by first | rfl | trivial⟩
            case measure => simp [intOf]; omega
        · have hkc : k = c := by omega
          subst hkc
          have HCV := Lib.hid (cvalid_yes (fs := fs) (by rw [HC.out, HM.out]) (fun j x hx => HK.out j x (by rw [← HC.out]; exact (List.getElem?_eq_some_iff.1 hx).1) hx))
          have HRR := Lib.hid (show (bys fs cs k).1 = R by rw [← HR.out, byh_yes HV.out HCV.out, HM.out])
          go_wp2_with fail
          refine (flatsOf_any fs _ _ hs1 (fvalid_four HV.out) (fvalid_len HV.out)).mono ?_
          rintro e w2 ⟨v2, rfl, ho2, hb2⟩
          have hw2 := hb1.trans (hb2.mono hb1.size)
          have HF2 := Lib.hid ho2
          have hu2 := hu1.out.below hb2
          obtain ⟨a2, cap2, rfl, hlc2, hcm2⟩ := ho2.form
          clear hb2 hb1 ho2 hu1
          go_wp2_with fail
          refine (tiesOf_any fs _ _ HF2.out (fun k f hf => fvalid_at HV.out hf) (by rw [HM.out]; omega)).mono ?_
          rintro e w3 ⟨vs3, rfl, ho3, hb3⟩
          have hw3 := hw2.trans (hb3.mono hw2.size)
          have HF3 := Lib.hid (show Ifs 0 w3 (.slice a2 k cap2) fs by have := HF2.out.below hb3; rw [HM.out] at this; exact this)
          have HU3 := Lib.hid (hu2.below hb3)
          obtain ⟨G, hG⟩ : ∃ G, w2.heap.size = G := ⟨_, rfl⟩
          rw [hG] at ho3 ⊢
          have HT := Lib.hid ho3
          have hGs := (OwnV.lt ho3).2.2
          rw [HM.out] at hlc2 ⊢
          clear hb3 ho3 hu2
          go_wp2_with fail
          refine (inOrder_e k (by omega) _).mono ?_
          rintro e w4 ⟨v4, rfl, ho4, hb4⟩
          have hw4 := hw3.trans (hb4.mono hw3.size)
          obtain ⟨x5, c5, rfl⟩ : ∃ x c, v4 = .slice x k c := by
            rcases OwnSl.form ho4 with ⟨h, h0⟩ | ⟨g, cp, h, _⟩
            · have : k = 0 := by simpa [ints] using h0
              subst this
              exact ⟨_, _, h⟩
            · rw [ints_len, List.length_range] at h
              exact ⟨_, _, h⟩
          have HO4 := Lib.hid ho4
          have HW3 := Lib.hid hw3
          clear ho4
          go_wp2_with fail
          have HA0 := Lib.hid (show arr fs (List.range k) = fs ∧ arrI cs (List.range k) = cs from ⟨by rw [← HM.out, arr_range], by rw [← HC.out, arrI_range]⟩)
          have HKC := Lib.hid (And.intro HM.out HC.out)
          go_loopw [10] (fun i wr => ∃ (q : Nat) (o : List Nat), 1 ≤ q ∧ (q ≤ k ∨ q = 1) ∧ i = .int .i64 q ∧ Hid (OwnIn w3.heap.size wr (.slice x5 k c5) (ints o)) ∧ Hid (∀ i ∈ o, i < k) ∧ Hid (o.length = k) ∧ Hid (bys fs cs q = (arr fs o, arrI cs o)) ∧ Below w3.heap.size w3 wr) (fun i _ => k - (intOf i).toNat)
          case atStart => exact ⟨1, List.range k, Nat.le_refl _, .inr rfl, rfl, HO4, Lib.hid (fun i hi => List.mem_range.1 hi), Lib.hid List.length_range, Lib.hid (by rw [HA0.out.1, HA0.out.2]; rfl), hb4⟩
          case round =>
            obtain ⟨q, o, hq1, hq2, rfl, HO, HBD, HOL, HK3, hbr⟩ := hrel
            by_cases hlq : q < k
            · have i1 : (q : Int) < (k : Int) := by omega
              have HB0 := Lib.hid (show bub q (arr fs o) (arrI cs o) = bys fs cs (q + 1) by rw [bys, HK3.out])
              go_wp2_with fail
              go_loopw [11, 12, 13] (fun t _ _ wr => ∃ (p : Nat) (o : List Nat), p ≤ q ∧ t = .int .i64 p ∧ Hid (OwnIn w3.heap.size wr (.slice x5 k c5) (ints o)) ∧ Hid (∀ i ∈ o, i < k) ∧ Hid (o.length = k) ∧ Hid (bub p (arr fs o) (arrI cs o) = bys fs cs (q + 1)) ∧ Below w3.heap.size w3 wr) (fun t _ _ _ => (intOf t).toNat)
              case atStart => exact ⟨q, o, Nat.le_refl _, rfl, HO, HBD, HOL, HB0, hbr⟩
              case round =>
                obtain ⟨p, o, hp, rfl, HO, HBD, HOL, HB, hbi⟩ := hrel
                have hzi := hbi.size
                by_cases h0 : 0 < p
                · obtain ⟨j, rfl⟩ : ∃ j, p = j + 1 := ⟨p - 1, by omega⟩
                  have i2 : (0 : Int) ≤ (j : Int) := by omega
                  have i3 : (0 : Int) < (j : Int) + 1 := by omega
                  have i4 : (j : Int) < (k : Int) := by omega
                  have i5 : (j : Int) + 1 < (k : Int) := by omega
                  have i6 : (0 : Int) ≤ (j : Int) + 1 := by omega
                  rcases OwnSl.form HO.out with ⟨hn, _⟩ | ⟨g5, cap5, hv5, hg1, hg2, hg3, hg4, hg5⟩
                  · obtain ⟨_, hk0, _⟩ := Value.slice.inj hn; omega
                  obtain ⟨rfl, -, rfl⟩ := Value.slice.inj hv5
                  obtain ⟨x, hx⟩ : ∃ x, o[j]? = some x := ⟨_, List.getElem?_eq_getElem (by rw [HOL.out]; omega)⟩
                  obtain ⟨y, hy⟩ : ∃ y, o[j + 1]? = some y := ⟨_, List.getElem?_eq_getElem (by rw [HOL.out]; omega)⟩
                  have hxm : x < k := HBD.out x (List.mem_of_getElem? hx)
                  have hym : y < k := HBD.out y (List.mem_of_getElem? hy)
                  have x1 : (x : Int) < (k : Int) := by omega
                  have x2 : (0 : Int) ≤ (x : Int) := by omega
                  have y1 : (y : Int) < (k : Int) := by omega
                  have y2 : (0 : Int) ≤ (y : Int) := by omega
                  obtain ⟨gt, capt, hgt, t0, t1⟩ := ties_read HT.out (r := x) (c := y) (by rw [HM.out]; exact hxm) (by rw [HM.out]; exact hym)
                  rw [HM.out] at t0
                  obtain ⟨t, htt⟩ : ∃ t, tieM fs x y = t := ⟨_, rfl⟩
                  rw [htt] at t1
                  replace t0 := (hbi.cell (p := ⟨G, x, none⟩) hGs).trans t0
                  replace t1 := (hbi.cell (p := ⟨gt, y, none⟩) hgt).trans t1
                  obtain ⟨bc, oc, cx, hua, hbc, hcx, z0⟩ := (HU3.out.below hbi).at (show x < cs.length by rw [HC.out]; exact hxm)
                  obtain ⟨bc', oc', cy, hua', hbc', hcy, z1⟩ := (HU3.out.below hbi).at (show y < cs.length by rw [HC.out]; exact hym)
                  subst hua
                  obtain ⟨rfl, rfl, -⟩ := Addr.mk.inj (Option.some.inj hua')
                  have hGr := Nat.lt_of_lt_of_le hGs hzi
                  have hgtr := Nat.lt_of_lt_of_le hgt hzi
                  have o0 := OwnSl.cell (sz := 1) (enc := encI) (fun _ => rfl) HO.out (ints_get hx) 0 _ rfl
                  have o1 := OwnSl.cell (sz := 1) (enc := encI) (fun _ => rfl) HO.out (ints_get hy) 0 _ rfl
                  simp only [Nat.add_zero, Nat.mul_one] at o0 o1
                  have hbd : ∀ i ∈ o, i < cs.length := by rw [HC.out]; exact HBD.out
                  have HCX := Lib.hid (show (arrI cs o)[j]? = some cx from (arrI_get hbd hx).trans hcx)
                  have HCY := Lib.hid (show (arrI cs o)[j + 1]? = some cy from (arrI_get hbd hy).trans hcy)
                  have HCS := Lib.hid ((cansw_arr (fs := fs) HV.out (by rw [HM.out]; exact HBD.out) (by rw [HOL.out, HM.out]) hx hy).trans (by rw [htt]))
                  have HXY := Lib.hid (And.intro hx hy)
                  clear hx hy htt hcx hcy hua' hv5 hbd hb4 HO4
                  go_wp2_with fail
                  refine wp_region_over (by kernel_rfl) (by kernel_rfl) (fun ov => ?_); have ov0 := fun x => ov x (G) (by (try simp) <;> omega); have ov1 := fun x => ov x (gt) (by (try simp) <;> omega); have ov2 := fun x => ov x (g5) (by (try simp) <;> omega); have ov3 := fun x => ov x (bc) (by (try simp) <;> omega); clear ov; (iterate 9 (iterate 8 (try go_big_quiet_step (first | fail)))); refine wpQuiet_nil ?_; intro w8 hw9; have hb_w8 := below_over hw9; clear hw9 ov0 ov1 ov2 ov3
                  have e0 := (hb_w8.cell (p := ⟨G, x, none⟩) hGr).trans t0
                  have e1 := (hb_w8.cell (p := ⟨gt, y, none⟩) hgtr).trans t1
                  have e2 := (hb_w8.cell (p := ⟨bc, oc + x, none⟩) hbc).trans z0
                  have e3 := (hb_w8.cell (p := ⟨bc, oc + y, none⟩) hbc).trans z1
                  have hz8 := hb_w8.size
                  have HO8 := Lib.hid (OwnSl.kept HO.out hb_w8)
                  have hb8 := hbi.trans (hb_w8.mono hzi)
                  clear hb_w8 o0 o1 t0 t1 z0 z1
                  go_wp2_with fail
                  by_cases hgo : t = false ∧ cx < cy
                  · obtain ⟨rfl, hlt2⟩ := hgo
                    have hle : decide (cy ≤ cx) = false := decide_eq_false (by omega)
                    have HE := Lib.hid (show bub j (arr fs (swapAt o j)) (arrI cs (swapAt o j)) = bys fs cs (q + 1) by
                      rw [arr_swap (by rw [HM.out]; exact HBD.out) (by rw [HOL.out]; omega), arrI_swap (by rw [HC.out]; exact HBD.out) (by rw [HOL.out]; omega), ← bub_yes HCX.out HCY.out hlt2 (by rw [HCS.out]; rfl)]; exact HB.out)
                    refine wp_region_over (by kernel_rfl) (by kernel_rfl) (fun ov => ?_); have ov0 := fun x => ov x (G) (by (try simp) <;> omega); have ov1 := fun x => ov x (gt) (by (try simp) <;> omega); have ov2 := fun x => ov x (bc) (by (try simp) <;> omega); clear ov; (iterate 9 (iterate 8 (try go_big_quiet_step (first | fail)))); refine wpQuiet_nil ?_; intro w9 hw9; have hb_w9 := below_over hw9; clear hw9 ov0 ov1 ov2
                    have hO9 := OwnSl.kept HO8.out hb_w9
                    have hb9 := hb8.trans (hb_w9.mono hb8.size)
                    have o0 := OwnSl.cell (sz := 1) (enc := encI) (fun _ => rfl) hO9 (ints_get HXY.out.1) 0 _ rfl
                    have o1 := OwnSl.cell (sz := 1) (enc := encI) (fun _ => rfl) hO9 (ints_get HXY.out.2) 0 _ rfl
                    simp only [Nat.add_zero, Nat.mul_one] at o0 o1
                    have y9 : ∀ j, w9.frozen? ⟨g5, j, none⟩ = false := OwnSl.frz hO9
                    have HO9 := Lib.hid hO9
                    clear hb_w9 e0 e1 e2 e3 hO9
                    have hwr1 : IntKind.i64.wrap ((j : Int) + 1 - 1) = (j : Int) := by rw [show (j : Int) + 1 - 1 = (j : Int) by omega]; exact IntWalk.i64_in _ (by omega)
                    have hwr2 : IntKind.i64.wrap ((j : Int) + 1) = (j : Int) + 1 := IntWalk.i64_in _ (by omega)
                    have hwr3 : IntKind.i64.wrap (j : Int) = (j : Int) := IntWalk.i64_in _ (by omega)
                    have htn : ((j : Int) + 1).toNat = j + 1 := by omega
                    go_wp2
                    go_roundw
                    case rel =>
                      obtain ⟨hst7, hgr7⟩ := OwnSl.store (sz := 1) (enc := encI) (fun _ => rfl) (by rw [ints_len, HOL.out]) HO9.out (k := j) (by rw [ints_len, HOL.out]; omega) (y : Int)
                      obtain ⟨hst8, hgr8⟩ := OwnSl.store (sz := 1) (enc := encI) (fun _ => rfl) (by rw [List.length_set, ints_len, HOL.out]) hst7 (k := j + 1) (by rw [List.length_set, ints_len, HOL.out]; omega) (x : Int)
                      rw [ints_set, ints_set, ← swapAt_of HXY.out.1 HXY.out.2] at hst8
                      have hB7 := hb9.grown hgr7 hb9.size (fun z hz => by cases hz; exact hg1)
                      have hB8 := hB7.grown hgr8 hB7.size (fun z hz => by cases hz; exact hg1)
                      simp only [wSet, Nat.mul_one] at hst8 hB8
                      exact ⟨j, swapAt o j, by omega, by go_num, Lib.hid hst8, Lib.hid (swapAt_bound HBD.out), Lib.hid (by rw [swapAt_len]; exact HOL.out), HE, hB8⟩
                    case measure => simp [intOf]
                  · have HE := Lib.hid (show bys fs cs (q + 1) = (arr fs o, arrI cs o) by
                      rw [← HB.out]
                      refine bub_no HCX.out HCY.out ?_
                      cases t
                      · left; intro h; exact hgo ⟨rfl, h⟩
                      · right; rw [HCS.out]; rfl)
                    have hle : t = true ∨ (t = false ∧ cy ≤ cx) := by
                      cases t
                      · right; exact ⟨rfl, by by_cases h : cx < cy; exact absurd ⟨rfl, h⟩ hgo; omega⟩
                      · left; rfl
                    rcases hle with rfl | ⟨rfl, hle⟩
                    · refine wp_region_over (by kernel_rfl) (by kernel_rfl) (fun ov => ?_); have ov0 := fun x => ov x (G) (by (try simp) <;> omega); have ov1 := fun x => ov x (gt) (by (try simp) <;> omega); have ov2 := fun x => ov x (bc) (by (try simp) <;> omega); clear ov; (iterate 9 (iterate 8 (try go_big_quiet_step (first | fail)))); refine wpQuiet_nil ?_; intro w9 hw9; have hb_w9 := below_over hw9; clear hw9 ov0 ov1 ov2
                      have HO9 := Lib.hid (OwnSl.kept HO8.out hb_w9)
                      have hb9 := hb8.trans (hb_w9.mono hb8.size)
                      clear hb_w9 e0 e1 e2 e3
                      go_wp2
                      go_roundw
                      case rel => exact ⟨q + 1, o, by omega, .inl (by omega), by go_num, HO9, HBD, HOL, HE, hb9⟩
                      case measure => simp [intOf]; omega
                    · refine wp_region_over (by kernel_rfl) (by kernel_rfl) (fun ov => ?_); have ov0 := fun x => ov x (G) (by (try simp) <;> omega); have ov1 := fun x => ov x (gt) (by (try simp) <;> omega); have ov2 := fun x => ov x (bc) (by (try simp) <;> omega); clear ov; (iterate 9 (iterate 8 (try go_big_quiet_step (first | fail)))); refine wpQuiet_nil ?_; intro w9 hw9; have hb_w9 := below_over hw9; clear hw9 ov0 ov1 ov2
                      have HO9 := Lib.hid (OwnSl.kept HO8.out hb_w9)
                      have hb9 := hb8.trans (hb_w9.mono hb8.size)
                      clear hb_w9 e0 e1 e2 e3
                      go_wp2
                      go_roundw
                      case rel => exact ⟨q + 1, o, by omega, .inl (by omega), by go_num, HO9, HBD, HOL, HE, hb9⟩
                      case measure => simp [intOf]; omega
                · obtain rfl : p = 0 := by omega
                  have HE := Lib.hid (show bys fs cs (q + 1) = (arr fs o, arrI cs o) from HB.out.symm)
                  go_wp2
                  go_roundw
                  case rel => exact ⟨q + 1, o, by omega, .inl (by omega), by go_num, HO, HBD, HOL, HE, hbi⟩
                  case measure => simp [intOf]; omega
            · have HE := Lib.hid (show arr fs o = R by
                rw [← HRR.out]
                rcases hq2 with h | h
                · obtain rfl : q = k := by omega
                  rw [HK3.out]
                · subst h
                  have hk1 : k = 0 ∨ k = 1 := by omega
                  rcases hk1 with rfl | rfl
                  · have := HK3.out; rw [show bys fs cs 1 = bys fs cs 0 from rfl] at this; rw [this]
                  · rw [HK3.out])
              have hwr : Below w.heap.size w wr := HW3.out.trans (hbr.mono HW3.out.size)
              have HFW := Lib.hid (HF3.out.below hbr)
              have HUW := Lib.hid (OwnIn.ins HO.out)
              go_wp2_with fail
              refine (arrange_e HFW.out HUW.out (by rw [HM.out]; exact HBD.out) (by rw [HM.out]; omega) (by rw [HOL.out, HM.out])).mono ?_
              rintro e w10 ⟨v10, rfl, ho10, hb10⟩
              have hw10 := hwr.trans (hb10.mono hwr.size)
              have HI10 := Lib.hid (show Ifs 0 w10 v10 R by rw [← HE.out]; exact ho10)
              clear ho10 hb10
              go_wp2_with fail
              refine (newFlats_e HI10.out HRV.out hw10).mono ?_
              rintro e w11 ⟨v11, rfl, ho11, hw11⟩
              have HO11 := Lib.hid ho11
              clear ho11
              go_wp2
              go_ret
              exact ⟨v11, rfl, HO11.out, hw11⟩
    · have hne : ((c : Int) == (m : Int)) = false := by simpa using (by omega : (c : Int) ≠ m)
      have HE := Lib.hid ((byh_no (fs := fs) (.inr (cvalid_len (by rw [HC.out, HM.out]; exact hcm2)))).symm.trans HR.out)
      go_enter Tryd.func32, Tryd.ntmps32
      go_wp2_with fail
      refine (implFV_b hs ht hv).mono ?_
      rintro e w1 ⟨rfl, hb1⟩
      go_wp2
      go_ret
      refine ⟨_, rfl, ?_, hb1⟩
      rw [← HE.out]
      exact OwnG.nil (OwnSl.nil _ _ _ _ _) (fun z hz => by cases hz) hb1.size
theorem OwnSl.chg {α : Type} {base e sz lo hi : Nat} {enc : α → List Value} {w w' : World} {v : Value} {ys : List α} (h : OwnSl base e sz enc w v ys) (hc : Chg lo hi w w') (hh : hi ≤ base) : OwnSl base e sz enc w' v ys :=
  h.keepB (fun g _ hb hlt => hc.high g (by omega) hlt)
end Go.Proofs.YtojafgooobpoiaaDoor
