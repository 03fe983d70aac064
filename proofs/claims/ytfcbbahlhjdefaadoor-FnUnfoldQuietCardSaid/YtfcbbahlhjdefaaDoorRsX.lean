/- The program's visitCalls, acyclic and RulesetValid. -/
import Derived.Test.YtfcbbahlhjdefaaDoorRsW
namespace Go.Proofs.YtfcbbahlhjdefaaDoor
open Go.RowKit
/-- The colours lie in block B. -/
structure Col (w : World) (B : Nat) (col : List Nat) : Prop where
  lt : B < w.heap.size
  c : ∀ y, y < 5 → w.cell? ⟨B, y, none⟩ = some (.int .i64 ((col.getD y 0 : Nat) : Int))
  f : ∀ y, w.frozen? ⟨B, y, none⟩ = false
theorem Col.below {w w' : World} {B : Nat} {col : List Nat} (h : Col w B col) (hb : Below w.heap.size w w') : Col w' B col :=
  ⟨Nat.lt_of_lt_of_le h.lt hb.size, fun y hy => (hb.cell (p := ⟨B, y, none⟩) h.lt).trans (h.c y hy), fun y => (hb.frozen (p := ⟨B, y, none⟩) h.lt).trans (h.f y)⟩
theorem Col.set {w : World} {B : Nat} {col : List Nat} (h : Col w B col) {c a : Nat} (hl : col.length = 5) (hc : c < 5) : Col (w.setCell ⟨B, c, none⟩ (.int .i64 ((a : Nat) : Int))) B (col.set c a) := by
  refine ⟨by simpa using h.lt, fun y hy => ?_, fun y => by rw [World.frozen?_setCell]; exact h.f y⟩
  rw [getD_set (by omega)]
  by_cases e : c = y
  · subst e
    rw [if_pos rfl]
    exact World.cell?_setCell_same' _ _ _ (by rw [h.c c hc]; rfl)
  · rw [if_neg e, World.cell?_setCell_other _ _ _ _ (by simp)]
    exact h.c y hy
theorem vfold_snoc {v : Nat → List Nat → Bool × List Nat} : ∀ (l : List Nat) (x : Nat) (b : Bool) (col : List Nat), vfold v (l ++ [x]) b col = ((vfold v l b col).1 && (v x (vfold v l b col).2).1, (v x (vfold v l b col).2).2)
  | [], _, _, _ => rfl
  | y :: l, x, b, col => by
    rw [List.cons_append]
    unfold vfold
    exact vfold_snoc l x _ _
theorem callsAt_eq {cs : List (List Ru)} {c : Nat} {l : List Ru} (h : cs[c]? = some l) : callsAt cs c = calls l := by unfold callsAt; rw [getD_get h]
theorem calls_lt {l : List Ru} {x : Nat} (h : x ∈ calls l) : x < 5 := by
  unfold calls at h
  rw [List.mem_filter, List.mem_range] at h
  exact h.1
set_option maxHeartbeats 4000000 in
set_option maxRecDepth 100000 in
/-- The search from chain c; w0: the world in which the chains are read, B: the colours' block. -/
theorem visit_any {lo : Nat} (cs : List (List Ru)) (_hn : cs.length ≤ 5) (hv : ∀ l, l ∈ cs → rusvalid l = true) (v : Value) (w0 : World) (hs : Rss lo w0 v cs) (B : Nat) (hB : w0.heap.size ≤ B) :
    ∀ (f c : Nat) (col : List Nat) (w : World), Below w0.heap.size w0 w → Col w B col → col.length = 5 → whites col < f → c < 5 →
      Calls Tryd.prog 47 #[v, .int .i64 (c : Int), .pointer (some ⟨B, 0, none⟩)] w fun e w' => e = .returned (.bool (visit cs f c col).1) ∧ Col w' B (visit cs f c col).2 ∧ Mv B w.heap.size w w' := by
  obtain ⟨va, vc, rfl, hlc, hcm⟩ := hs.form
  unfold maxLen at hcm
  intro f
  induction f with
  | zero => intro c col w _ _ _ h _; omega
  | succ f ih =>
    intro c col w hb0 hC hl5 hw hc5
    obtain ⟨n, hnn⟩ : ∃ n, cs.length = n := ⟨_, rfl⟩
    rw [hnn] at ih
    have HIH := Lib.hid ih
    have HS := Lib.hid (hs.below hb0)
    have HV := Lib.hid hv
    have HC := Lib.hid hC
    have hlB := hC.lt
    clear ih
    have HN := Lib.hid hnn
    by_cases hge : n ≤ c
    · have HU := Lib.hid (show visit cs (f + 1) c col = (true, col) by unfold visit; rw [if_pos (by omega)])
      have i1 : (n : Int) ≤ (c : Int) := by omega
      rw [hnn] at hs HS ⊢
      go_enter Tryd.func47, Tryd.ntmps47
      go_wp2
      go_ret
      exact ⟨ret_bool (by rw [HU.out]), by rw [HU.out]; exact HC.out, Mv.refl _ _ _⟩
    · have i1 : ¬ (n : Int) ≤ (c : Int) := by omega
      have i0 : (0 : Int) ≤ (c : Int) := by omega
      have i5 : (c : Int) < 5 := by omega
      have cc := hC.c c hc5
      have cf := hC.f c
      by_cases h1 : col.getD c 0 = 1
      · have HU := Lib.hid (show visit cs (f + 1) c col = (false, col) by unfold visit; rw [if_neg (by omega), if_pos h1])
        rw [h1] at cc
        rw [hnn] at hs HS ⊢
        go_enter Tryd.func47, Tryd.ntmps47
        go_wp2
        go_ret
        exact ⟨ret_bool (by rw [HU.out]), by rw [HU.out]; exact HC.out, Mv.refl _ _ _⟩
      · by_cases h2 : col.getD c 0 = 2
        · have HU := Lib.hid (show visit cs (f + 1) c col = (true, col) by unfold visit; rw [if_neg (by omega), if_neg h1, if_pos h2])
          rw [h2] at cc
          rw [hnn] at hs HS ⊢
          go_enter Tryd.func47, Tryd.ntmps47
          go_wp2
          go_ret
          exact ⟨ret_bool (by rw [HU.out]), by rw [HU.out]; exact HC.out, Mv.refl _ _ _⟩
        · have HU := Lib.hid (show visit cs (f + 1) c col = ((vfold (visit cs f) (callsAt cs c) true (col.set c 1)).1, (vfold (visit cs f) (callsAt cs c) true (col.set c 1)).2.set c 2) by
            conv => lhs; unfold visit
            rw [if_neg (by omega), if_neg h1, if_neg h2])
          obtain ⟨g, hg⟩ : ∃ g, col.getD c 0 = g := ⟨_, rfl⟩
          rw [hg] at cc
          have g1 : ((g : Int) == 1) = false := by simp; omega
          have g2 : ((g : Int) == 2) = false := by simp; omega
          obtain ⟨l, hx⟩ : ∃ l, cs[c]? = some l := ⟨_, List.getElem?_eq_getElem (by omega)⟩
          have HX := Lib.hid (callsAt_eq hx)
          have hlv := HV.out l (List.mem_of_getElem? hx)
          have HLV := Lib.hid (show ∀ (k : Nat) r, l[k]? = some r → r.ok = true from fun k r hr => by
            unfold rusvalid at hlv
            rw [Bool.and_eq_true, List.all_eq_true] at hlv
            exact hlv.1 r (List.mem_of_getElem? hr))
          have hwl := whites_lt col c 1 (by decide) (by omega) (show wht (col.getD c 0) = true by unfold wht; simp only [Bool.and_eq_true, bne_iff_ne]; exact ⟨h1, h2⟩)
          obtain ⟨W1, hW1⟩ : ∃ W1, w.setCell ⟨B, c, none⟩ (.int .i64 1) = W1 := ⟨_, rfl⟩
          have hC1 : Col W1 B (col.set c 1) := by rw [← hW1]; exact HC.out.set (a := 1) hl5 hc5
          have hm1 : Mv B w.heap.size w W1 := by rw [← hW1]; exact Mv.set B _ w c _
          have hz1 : W1.heap.size = w.heap.size := by rw [← hW1]; simp
          have hb1 : Below w0.heap.size w0 W1 := hb0.trans (hm1.below hb0.size hB)
          have HS1 := Lib.hid (hs.below hb1)
          obtain ⟨b, o, sv, rfl, hbl, c0, hsv⟩ := HS1.out.at hx
          have HSV := Lib.hid hsv
          have HC1 := Lib.hid hC1
          rw [hnn] at hs HS HS1 ⊢
          clear hx hlv hsv hC1 hC h1 h2 hg
          have hC0 : 0 = 0 := rfl
          go_enter Tryd.func47, Tryd.ntmps47
          go_wp2_with fail
          refine (callsIn_any l sv W1 HSV.out HLV.out).mono ?_
          rintro e w2 ⟨v2, rfl, ho2, hb2⟩
          have HO2 := Lib.hid ho2
          obtain ⟨xa, xc, rfl, hxl, hxm⟩ := HO2.out.ins.formI
          unfold maxLen at hxm
          have hm2 : Mv B w.heap.size w w2 := hm1.trans (Mv.of_below (hb2.mono (by omega)))
          have hz2 := hb2.size
          have HC2 := Lib.hid (HC1.out.below hb2)
          clear ho2 HC1 hb2 hW1
          obtain ⟨xs, hxs⟩ : ∃ xs, calls l = xs := ⟨_, rfl⟩
          have HXS := Lib.hid hxs
          rw [hxs] at HO2 hxl ⊢
          have HLT := Lib.hid (show ∀ x, x ∈ xs → x < 5 from fun x hx => calls_lt (hxs ▸ hx))
          clear hxs
          rw [List.length_map] at HO2 hxl ⊢
          obtain ⟨m, hm⟩ : ∃ m, xs.length = m := ⟨_, rfl⟩
          have HM := Lib.hid hm
          rw [hm] at HO2 hxl ⊢
          clear hm
          go_wp2_with fail
          go_loopw [7, 9, 33] (fun fr _ i wr => ∃ k : Nat, k ≤ m ∧ i = .int .i64 k ∧ fr = .bool (vfold (visit cs f) (xs.take k) true (col.set c 1)).1 ∧ Hid (Col wr B (vfold (visit cs f) (xs.take k) true (col.set c 1)).2) ∧ Hid (OwnIn W1.heap.size wr (.slice xa m xc) (xs.map (fun c : Nat => (c : Int)))) ∧ Mv B w.heap.size w wr ∧ w2.heap.size ≤ wr.heap.size) (fun _ _ i _ => m - (intOf i).toNat)
          case atStart => exact ⟨0, by omega, rfl, rfl, HC2, HO2, hm2, Nat.le_refl _⟩
          case round =>
            obtain ⟨k, hk, rfl, rfl, HCr, HIr, hmr, hzr⟩ := hrel
            have hzw := hmr.size
            by_cases hlt : k < m
            · have j1 : (k : Int) < (m : Int) := by omega
              have j2 : (0 : Int) ≤ (k : Int) := by omega
              obtain ⟨x, hx⟩ : ∃ x, xs[k]? = some x := ⟨_, List.getElem?_eq_getElem (by rw [HM.out]; exact hlt)⟩
              obtain ⟨bb, oo, rfl, hbl2, d0⟩ := HIr.out.ins.atI (k := k) (x := (x : Int)) (by rw [List.getElem?_map, hx]; rfl)
              have hx5 : x < 5 := HLT.out x (List.mem_of_getElem? hx)
              have HSN := Lib.hid (show vfold (visit cs f) (xs.take (k + 1)) true (col.set c 1) = ((vfold (visit cs f) (xs.take k) true (col.set c 1)).1 && (visit cs f x (vfold (visit cs f) (xs.take k) true (col.set c 1)).2).1, (visit cs f x (vfold (visit cs f) (xs.take k) true (col.set c 1)).2).2) by
                rw [List.take_add_one, hx]
                exact vfold_snoc _ _ _ _)
              have hlen := vfold_len (v := visit cs f) (visit_len f) (xs.take k) true (col.set c 1)
              have hwh := vfold_whites (v := visit cs f) (visit_whites f) (xs.take k) true (col.set c 1)
              obtain ⟨P, hP⟩ : ∃ P, vfold (visit cs f) (xs.take k) true (col.set c 1) = P := ⟨_, rfl⟩
              rw [hP] at HCr HSN hlen hwh ⊢
              obtain ⟨pb, pcol⟩ := P
              simp only at HCr HSN hlen hwh ⊢
              rw [List.length_set] at hlen
              obtain ⟨Q, hQ⟩ : ∃ Q, visit cs f x pcol = Q := ⟨_, rfl⟩
              have HQ := Lib.hid hQ
              have hbr0 : Below w0.heap.size w0 wr := hb0.trans (hmr.below hb0.size hB)
              clear hP hx hQ
              go_wp2_with fail
              refine (HIH.out x pcol wr hbr0 HCr.out (by omega) (by omega) hx5).mono ?_
              rw [HQ.out]
              rw [HQ.out] at HSN
              obtain ⟨qb, qcol⟩ := Q
              simp only at HSN ⊢
              rintro e w3 ⟨rfl, hC3, hm3⟩
              have HC3 := Lib.hid (show Col w3 B (vfold (visit cs f) (xs.take (k + 1)) true (col.set c 1)).2 by rw [HSN.out]; exact hC3)
              have HI3 := Lib.hid (show OwnIn W1.heap.size w3 (.slice (some ⟨bb, oo, none⟩) m xc) (xs.map (fun c : Nat => (c : Int))) from OwnSl.keepB HIr.out (fun z _ z1 z2 => hm3.block z z2 (by omega)))
              have hmw : Mv B w.heap.size w w3 := hmr.trans (hm3.mono hzw)
              have hz3 := hm3.size
              clear hC3 hm3
              cases qb
              · go_wp2
                go_roundw
                case rel => exact ⟨k + 1, by omega, by go_num, by rw [HSN.out]; simp, HC3, HI3, hmw, by omega⟩
                case measure => simp [intOf]; omega
              · go_wp2
                go_roundw
                case rel => exact ⟨k + 1, by omega, by go_num, by rw [HSN.out]; simp, HC3, HI3, hmw, by omega⟩
                case measure => simp [intOf]; omega
            · have hkm : k = m := by omega
              subst hkm
              have HTK := Lib.hid (show xs.take k = xs by rw [List.take_of_length_le (by rw [HM.out]; exact Nat.le_refl _)])
              rw [HTK.out] at HCr ⊢
              have HUU := Lib.hid (show visit cs (f + 1) c col = ((vfold (visit cs f) xs true (col.set c 1)).1, (vfold (visit cs f) xs true (col.set c 1)).2.set c 2) by rw [HU.out, HX.out, HXS.out])
              have hlen := vfold_len (v := visit cs f) (visit_len f) xs true (col.set c 1)
              rw [List.length_set] at hlen
              obtain ⟨P, hP⟩ : ∃ P, vfold (visit cs f) xs true (col.set c 1) = P := ⟨_, rfl⟩
              rw [hP] at HCr HUU hlen ⊢
              obtain ⟨pb, pcol⟩ := P
              simp only at HCr HUU hlen ⊢
              have e0 := HCr.out.c c hc5
              have e1 := HCr.out.f c
              have eB := HCr.out.lt
              have HCf := Lib.hid (HCr.out.set (c := c) (a := 2) (by omega) hc5)
              have hmf : Mv B w.heap.size w (wr.setCell ⟨B, c, none⟩ (.int .i64 2)) := hmr.trans (Mv.set B _ wr c _)
              clear hP HTK
              go_wp2
              go_ret
              exact ⟨ret_bool (by rw [HUU.out]), by rw [HUU.out]; exact HCf.out, hmf⟩
set_option maxHeartbeats 2000000 in
set_option maxRecDepth 100000 in
theorem acyclic_any {lo : Nat} (cs : List (List Ru)) (hn : cs.length ≤ 5) (hv : ∀ l, l ∈ cs → rusvalid l = true) (v : Value) (w : World) (hs : Rss lo w v cs) :
    Calls Tryd.prog 30 #[v] w fun e w' => e = .returned (.bool (acycl cs 6 (List.range cs.length) [0, 0, 0, 0, 0])) ∧ Below w.heap.size w w' := by
  obtain ⟨va, vc, rfl, hlc, hcm⟩ := hs.form
  unfold maxLen at hcm
  obtain ⟨W, hW⟩ : ∃ W, w.alloc (.cells #[.int .i64 0, .int .i64 0, .int .i64 0, .int .i64 0, .int .i64 0] 110) = W := ⟨_, rfl⟩
  have hal : Below w.heap.size w W := by rw [← hW]; exact (Below.refl _ _).alloc (Nat.le_refl _) _
  have HC0 := Lib.hid (show Col W w.heap.size [0, 0, 0, 0, 0] from ⟨by rw [← hW]; simp, fun y hy => by
    rw [← hW]
    match y, hy with
    | 0, _ => simp
    | 1, _ => simp
    | 2, _ => simp
    | 3, _ => simp
    | 4, _ => simp
    | y + 5, h => omega, fun y => by rw [← hW]; exact frz_new w _ _ y⟩)
  have HS := Lib.hid hs
  have HV := Lib.hid hv
  obtain ⟨n, hnn⟩ : ∃ n, cs.length = n := ⟨_, rfl⟩
  have HN := Lib.hid hnn
  obtain ⟨R, hR⟩ : ∃ R, acycl cs 6 (List.range cs.length) [0, 0, 0, 0, 0] = R := ⟨_, rfl⟩
  have HR := Lib.hid hR
  have hR0 : acycl cs 6 ((List.range cs.length).drop 0) [0, 0, 0, 0, 0] = R := hR
  have HR0 := Lib.hid hR0
  have hn5 : n ≤ 5 := by omega
  rw [hR]
  rw [hnn] at hs ⊢
  have HS2 := Lib.hid hs
  clear hR hs hv hR0 HS
  go_enter Tryd.func30, Tryd.ntmps30
  go_wp2_with fail
  go_loopw [4, 7] (fun _ i wr => ∃ (k : Nat) (col : List Nat), k ≤ n ∧ i = .int .i64 k ∧ Hid (Col wr w.heap.size col) ∧ col.length = 5 ∧ Hid (acycl cs 6 ((List.range cs.length).drop k) col = R) ∧ Below w.heap.size w wr) (fun _ i _ => n - (intOf i).toNat)
  case atStart => exact ⟨0, _, by omega, rfl, HC0, rfl, HR0, hal⟩
  case round =>
    obtain ⟨k, col, hk, rfl, HC, hl5, HRk, hbr⟩ := hrel
    clear HC0 HR0
    have hzr := hbr.size
    by_cases hlt : k < n
    · have j1 : (k : Int) < (n : Int) := by omega
      have j2 : (0 : Int) ≤ (k : Int) := by omega
      have hcl := HC.out.lt
      have hst : acycl cs 6 ((List.range cs.length).drop k) col = ((visit cs 6 k col).1 && acycl cs 6 ((List.range cs.length).drop (k + 1)) (visit cs 6 k col).2) := by
        rw [List.drop_eq_getElem_cons (by rw [List.length_range, HN.out]; exact hlt), List.getElem_range]
        rfl
      have hwh : whites col ≤ col.length := List.countP_le_length
      have hlv := visit_len (cs := cs) 6 k col
      obtain ⟨Q, hQ⟩ : ∃ Q, visit cs 6 k col = Q := ⟨_, rfl⟩
      rw [hQ] at hst hlv
      rw [HRk.out] at hst
      have HQ := Lib.hid hQ
      have HST := Lib.hid hst
      clear hst hQ
      go_wp2_with fail
      refine (visit_any cs (by rw [HN.out]; exact hn5) HV.out _ w HS2.out w.heap.size (Nat.le_refl _) 6 k col wr hbr HC.out hl5 (by omega) (by omega)).mono ?_
      rw [HQ.out]
      obtain ⟨qb, qcol⟩ := Q
      simp only at HST hlv ⊢
      rintro e w3 ⟨rfl, hC3, hm3⟩
      have HC3 := Lib.hid hC3
      have hb3 : Below w.heap.size w w3 := hbr.trans (hm3.below hzr (Nat.le_refl _))
      clear hC3 hm3
      cases qb
      · have HF := Lib.hid (show R = false by rw [HST.out]; rfl)
        go_wp2
        go_ret
        exact ⟨ret_bool HF.out.symm, hb3⟩
      · have HT := Lib.hid (show acycl cs 6 ((List.range cs.length).drop (k + 1)) qcol = R by rw [HST.out]; simp)
        go_wp2
        go_roundw
        case rel => exact ⟨k + 1, qcol, by omega, by go_num, HC3, by omega, HT, hb3⟩
        case measure => simp [intOf]; omega
    · have HF := Lib.hid (show R = true by
        rw [← HRk.out, List.drop_of_length_le (by rw [List.length_range, HN.out]; omega)]
        rfl)
      go_wp2
      go_ret
      exact ⟨ret_bool HF.out.symm, hbr⟩
def callsOk (cs : List (List Ru)) : Bool := cs.all (fun l => (calls l).all (fun c => decide (c < cs.length)))
def rsvalid (cs : List (List Ru)) : Bool := inB cs.length 1 5 && cs.all rusvalid && callsOk cs && acycl cs 6 (List.range cs.length) [0, 0, 0, 0, 0]
end Go.Proofs.YtfcbbahlhjdefaaDoor
