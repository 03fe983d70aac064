/- A new box of the program's: copies of the sets. -/
import Derived.Test.YtnnmkdaioajkkaaDoorSlA
import Derived.Test.YtnnmkdaioajkkaaDoorFoD
import Derived.Deep.RegionLaw
import Derived.Test.YtnnmkdaioajkkaaDoorFmZ
namespace Go.Proofs.YtnnmkdaioajkkaaDoor
open Go.RowKit
theorem run_append_copy_nil {α : Type} {sz : Nat} {enc : α → List Value} (hsz : 0 < sz) (henc : ∀ x, (enc x).length = sz) {P : Program} {w : World} (t ty e : TypeId) (i : TypeInfo) (z : Value) (bytes : Nat) (ht : P.underlying t = some (.slice e)) (hi : P.info? e = some i) (hz : i.zero = some z)
    (hsize : i.size = sz) (hby : i.bytes = bytes) (hzs : z.cells.size = sz)
    {v : Value} {xs : List α} (hone : ∀ u ∈ xs.flatMap enc, u.oneCell' = true) (hs : SlAt sz enc w v xs) (hbytes : xs.length * bytes ≤ 140737488355328) :
    ∃ v' w', (Builtin.append_ #[t, t] ty #[.slice none 0 0, v]).run P w = .ok v' w' ∧ OwnSl w.heap.size e sz enc w' v' xs ∧ Below w.heap.size w w' := by
  obtain ⟨a, cap, rfl, h1, h2, hx⟩ := id hs
  by_cases hn : xs = []
  · subst hn
    refine ⟨.slice none 0 0, w, ?_, OwnSl.nil _ _ _ _ _, Below.refl _ _⟩
    have hz0 : ∀ w, (Builtin.firstCells i.size 0 (.slice a 0 cap)).run P w = .ok #[] w := fun w => by
      cases a <;> simp [Builtin.firstCells, loadCells, loadCellsFrom]
    simp [Builtin.append_, run_underlying ht, sizeOf, typeInfo, hi, Builtin.lenOf, hz0, Result.andThen]
  · have hlen : 0 < xs.length := List.length_pos_iff.2 hn
    obtain ⟨b, o, ha, _, _⟩ := hx 0 xs[0] (List.getElem?_eq_getElem hlen)
    subst ha
    obtain ⟨g5, cap5, w5, hrun, hown5, hgr5, _, _⟩ := run_append_lies (P := P) (w := w) t ty w.heap.size e i z sz bytes ht hi hz hsize hby hzs hsz (.slice none 0 0) 0 [] (OwnSl.nil _ _ sz enc w) ⟨b, o, none⟩ xs.length cap (xs.flatMap enc) (length_flatMap henc xs) (hs.flat hsz henc) hone hlen (by unfold maxLen at *; omega) (by rw [Nat.zero_add]; exact hbytes) (Nat.le_refl _) w.heap.size rfl
    rw [Nat.zero_add] at hrun hown5
    refine ⟨_, w5, hrun, ?_, (Below.refl _ _).grown hgr5 (Nat.le_refl _) (fun k hk => by cases hk)⟩
    unfold OwnSl
    simpa using hown5
theorem step_append_run {P : Program} {ops : Array Oper} {o : Oper} {a : Act} {w : World} {K : Act → World → Prop} {Q : Exit → Act → World → Prop} {E : Prop} (hgd : o.guard = none) (s x : Operand) (t : TypeId)
    (ho : o.op = .call { callee := .builtin .append, args := #[s, x], argTypes := #[t, t] }) {vs vx : Value} (hs : a.eval s = vs) (hx : a.eval x = vx) {v' : Value} {w' : World}
    (hr : (Builtin.append_ #[t, t] o.type #[vs, vx]).run P w = .ok v' w') (hk : K (a.put o.dst v') w') :
    if Region.wanted o (yielded ops a.tmps) = true then Oper.wp P o a w K Q else E := by
  have hw : Region.wanted o (yielded ops a.tmps) = true := by simp [Region.wanted, hgd]
  rw [if_pos hw]
  exact wp_append_run s x t ho hs hx hr hk
set_option maxHeartbeats 2000000 in
set_option maxRecDepth 100000 in
theorem box_any {lo : Nat} (b : Bx) (v0 v1 v2 v3 : Value) (w0 w : World) (hs : All2 (Sps lo w0) [v0, v1, v2, v3] b) (hb0 : Below w0.heap.size w0 w) (hle : ∀ (k : Nat) xs, b[k]? = some xs → xs.length ≤ 1000000) :
    Calls Tryd.prog 77 #[.agg #[v0, v1, v2, v3]] w (RetBx b w) := by
  have h4 : b.length = 4 := hs.1.symm
  have H4 := Lib.hid h4
  have HS := Lib.hid hs
  have HLE := Lib.hid hle
  obtain ⟨i0, hi, hz0, hz1, hz2⟩ := info_parts infoSl
  obtain ⟨j0, hj, hj0, hj1, hj2⟩ := info_parts infoSp
  clear hs h4 hle
  go_enter Tryd.func77, Tryd.ntmps77
  go_wp2_with (at_make; refine wpList_make_full _ rfl _ _ 26 rfl (w.heap.size + 1 + 1) 86 i0 _ 1 Tryd.underlying26 hi hz0 hz1 _ _ _ _ 4 rfl rfl rfl rfl ?b1 ?b2 ?b3 ?_)
  case b1 => rw [hz2]; omega
  case b2 => simp only [maxLen]; omega
  case b3 => simp
  intro w1 hown1 hgrow1
  have HO1 := Lib.hid (show OwnSl (w.heap.size + 1 + 1) 86 1 enc1 w1 (.slice (some ⟨w.heap.size + 1 + 1, 0, none⟩) 4 4) (List.replicate 4 (Value.slice none 0 0)) by unfold OwnSl; rw [List.length_replicate, ← madeFlat (sz := 1) (enc := enc1) (fun _ => rfl) (by omega) (.slice none 0 0) (Value.slice none 0 0) rfl, Nat.mul_one]; exact hown1)
  have hzw : w.heap.size + 1 + 1 < w1.heap.size := by
    rcases OwnSl.form HO1.out with ⟨h, _⟩ | ⟨g, cp, h, _, h2, _⟩
    · cases h
    · obtain ⟨h3, _, _⟩ := Value.slice.inj h; cases h3; exact h2
  have hal : Below w.heap.size w ((w.alloc (.cells #[v0, v1, v2, v3] 92)).alloc (.cells #[.slice none 0 0] 28)) := by (repeat' (first | with_reducible exact Below.refl _ _ | with_reducible assumption | with_reducible refine Below.setCell ?_ ?_ _ | with_reducible refine Below.alloc ?_ ?_ _ | with_reducible refine Below.drew ?_ | with_reducible refine belDrewN ?_ _ | with_reducible refine Below.trans ?_ (Below.mono (by assumption) ?_) | omega | (simp; omega) | (simp; done)))
  have hw1 : Below w.heap.size w w1 := hal.grown hgrow1 (by simp; omega) (fun k hk => by cases hk)
  have hfar : ∀ p : Addr, p.block < w.heap.size + 1 + 1 → w1.cell? p = ((w.alloc (.cells #[v0, v1, v2, v3] 92)).alloc (.cells #[.slice none 0 0] 28)).cell? p ∧ w1.frozen? p = ((w.alloc (.cells #[v0, v1, v2, v3] 92)).alloc (.cells #[.slice none 0 0] 28)).frozen? p := fun p hp => ⟨hgrow1.cell_far p (by simp; omega) (fun h => by cases h), hgrow1.frozen_far p (by simp; omega) (fun h => by cases h)⟩
  have s0 : w1.cell? ⟨w.heap.size, 0, none⟩ = some v0 := by rw [(hfar _ (by simp only; omega)).1]; simp
  have s1 : w1.cell? ⟨w.heap.size, 1, none⟩ = some v1 := by rw [(hfar _ (by simp only; omega)).1]; simp
  have s2 : w1.cell? ⟨w.heap.size, 2, none⟩ = some v2 := by rw [(hfar _ (by simp only; omega)).1]; simp
  have s3 : w1.cell? ⟨w.heap.size, 3, none⟩ = some v3 := by rw [(hfar _ (by simp only; omega)).1]; simp
  have r0 : w1.cell? ⟨w.heap.size + 1, 0, none⟩ = some (.slice none 0 0) := by rw [(hfar _ (by simp only; omega)).1]; simp
  have rf : w1.frozen? ⟨w.heap.size + 1, 0, none⟩ = false := by rw [(hfar _ (by simp only; omega)).2]; simp
  have hs0 : w.heap.size < w1.heap.size := by omega
  have hs1 : w.heap.size + 1 < w1.heap.size := by omega
  clear hown1 hgrow1 hfar hal
  go_wp2_with fail
  go_loopw [4, 5, 9] (fun _ _ i wr => ∃ (k : Nat) (vs : List Value), k ≤ 4 ∧ i = .int .i64 k ∧ vs.length = k ∧ OwnSl (w.heap.size + 1 + 1) 86 1 enc1 wr (.slice (some ⟨w.heap.size + 1 + 1, 0, none⟩) 4 4) (vs ++ List.replicate (4 - k) (Value.slice none 0 0)) ∧ Hid (OwnC (PSp wr) (w1.heap.size + 1) wr.heap.size vs (b.take k)) ∧ Below w.heap.size w wr ∧
    wr.cell? ⟨w1.heap.size, 0, none⟩ = some (.slice (some ⟨w.heap.size + 1 + 1, 0, none⟩) 4 4) ∧ wr.cell? ⟨w.heap.size + 1, 0, none⟩ = some (.slice none 0 0) ∧ wr.frozen? ⟨w.heap.size + 1, 0, none⟩ = false ∧ w1.heap.size < wr.heap.size) (fun _ _ i _ => 4 - (intOf i).toNat)
  case atStart =>
    refine ⟨0, [], by omega, rfl, rfl, ?_, Lib.hid (by show _ ≤ _; simp), hw1.alloc (by omega) _, by simp, ?_, ?_, by simp⟩
    · exact World.ownsRow.alloc HO1.out _
    · rw [World.cell?_alloc_lt _ _ ⟨w.heap.size + 1, 0, none⟩ hs1]; exact r0
    · rw [World.frozen?_alloc_old _ _ ⟨w.heap.size + 1, 0, none⟩ (by simp only; omega)]; exact rf
  case round =>
    obtain ⟨k, vs, hk4, rfl, hvs, hO, HC, hbr, cb, cr, fr, hzb⟩ := hrel
    have HO := Lib.hid hO
    have HVS := Lib.hid hvs
    have hzr := hbr.size
    clear hO hvs
    by_cases hlt : k < 4
    · have i1 : (k : Int) < 4 := by omega
      have i2 : (0 : Int) ≤ (k : Int) := by omega
      obtain ⟨xs, hx⟩ : ∃ xs, b[k]? = some xs := ⟨_, List.getElem?_eq_getElem (by rw [H4.out]; exact hlt)⟩
      obtain ⟨sv, hsv, hss⟩ := HS.out.left hx
      have HX := Lib.hid hx
      have hxi : ∀ w : World, (Instr.index 92 (.agg #[v0, v1, v2, v3]) (.int .i64 (k : Int))).run Tryd.prog w = .ok sv w := by
        intro w
        rcases (by omega : k = 0 ∨ k = 1 ∨ k = 2 ∨ k = 3) with rfl | rfl | rfl | rfl <;> (cases hsv; kernel_rfl)
      have hb0r : Below w0.heap.size w0 wr.drew := (hb0.trans (hbr.mono hb0.size)).drew
      obtain ⟨v5, w5, hrun, ho5, hb5⟩ := run_append_copy_nil (sz := 2) (enc := Sp.enc) (by omega) (fun _ => rfl) (P := Tryd.prog) (w := wr.drew) 86 86 131 j0 _ 16 Tryd.underlying86 hj hj0 hj1 hj2 rfl (v := sv) (xs := xs) (fun u hu => by obtain ⟨s, _, hs⟩ := List.mem_flatMap.1 hu; simp only [List.mem_cons, List.not_mem_nil, or_false] at hs; rcases hs with rfl | rfl <;> rfl) (SlFr.at (hss.below hb0r)) (by have := HLE.out k xs hx; omega)
      replace hb5 : Below wr.heap.size wr w5 := (Below.drew (Below.refl _ _)).trans hb5
      have hz5 := hb5.size
      obtain ⟨va, vc, rfl, -, -⟩ := (OwnSp.sps ho5).form
      have HO5 := Lib.hid (OwnSl.kept HO.out hb5)
      have hP5 : PSp w5 wr.heap.size w5.heap.size (.slice va xs.length vc) xs := ⟨ho5, fun x hx => (World.ownsRow.lt ho5 x hx).2, hz5⟩
      have hC5 : OwnC (PSp w5) (w1.heap.size + 1) wr.heap.size vs (b.take k) := OwnC.imp PSp.le HC.out (fun l h x y _ _ g3 => OwnI.keep g3 (Kpi.of hb5))
      have HL := Lib.hid (show (vs ++ List.replicate (4 - k) (Value.slice none 0 0)).length = 4 by simp [HVS.out]; omega)
      obtain ⟨hst, hgr⟩ := OwnSl.store (sz := 1) (enc := enc1) (fun _ => rfl) HL.out.symm HO5.out (k := k) (by rw [HL.out]; exact hlt) (.slice va xs.length vc)
      rw [set_rep vs 4 k _ (.slice va xs.length vc) HVS.out hlt] at hst
      have hfz : ∀ j, w5.frozen? ⟨w.heap.size + 1 + 1, j, none⟩ = false := OwnSl.frz HO5.out
      have hcz := OwnSl.cell (sz := 1) (enc := enc1) (fun _ => rfl) HO5.out (k := k) (y := Value.slice none 0 0) (by rw [List.getElem?_append_right (by rw [HVS.out]; exact Nat.le_refl _), HVS.out, Nat.sub_self, List.getElem?_replicate, if_pos (by omega)])
      have d0 := hcz 0 _ rfl
      simp only [Nat.add_zero, Nat.mul_one, wSet] at d0 hst hgr
      obtain ⟨W6, hW6⟩ : ∃ W6, w5.setCell ⟨w.heap.size + 1 + 1, k, none⟩ (.slice va xs.length vc) = W6 := ⟨_, rfl⟩
      rw [hW6] at hst hgr
      have hK : Kpi (w1.heap.size + 1) wr.heap.size w5 W6 := ⟨hgr.size, fun j g1 _ g3 => hgr.block j g3 (by intro e; cases e; omega)⟩
      have hK' : Kpi wr.heap.size w5.heap.size w5 W6 := ⟨hgr.size, fun j g1 _ g3 => hgr.block j g3 (by intro e; cases e; omega)⟩
      have HC6 := Lib.hid (show OwnC (PSp W6) (w1.heap.size + 1) W6.heap.size (vs ++ [.slice va xs.length vc]) (b.take (k + 1)) by
        rw [List.take_add_one, HX.out]
        refine OwnC.snoc (OwnC.imp PSp.le hC5 (fun l h x y g1 g2 g3 => OwnI.keep g3 (hK.sub g1 g2))) (fun l hl => ?_) (Nat.le_trans hz5 hgr.size)
        obtain ⟨q1, q2, q3⟩ := OwnI.keep hP5 hK'
        exact ⟨OwnSl.mono q1 hl, fun x hx => Nat.lt_of_lt_of_le (q2 x hx) hgr.size, Nat.le_trans hl (Nat.le_trans hz5 hgr.size)⟩)
      have HST := Lib.hid hst
      have hbw : Below w.heap.size w W6 := (hbr.trans (hb5.mono hzr)).grown hgr (by omega) (fun k hk => by cases hk; omega)
      have e5 := (hb5.cell (p := ⟨w1.heap.size, 0, none⟩) hzb).trans cb
      have e6 := (hgr.cell_far ⟨w1.heap.size, 0, none⟩ (by simp only; omega) (by intro e; simp at e; omega)).trans e5
      have r6 := (hgr.cell_far ⟨w.heap.size + 1, 0, none⟩ (by simp only; omega) (by intro e; simp at e)).trans ((hb5.cell (p := ⟨w.heap.size + 1, 0, none⟩) (by simp only; omega)).trans cr)
      have f6 := (hgr.frozen_far ⟨w.heap.size + 1, 0, none⟩ (by simp only; omega) (by intro e; simp at e)).trans ((hb5.frozen (p := ⟨w.heap.size + 1, 0, none⟩) (by simp only; omega)).trans fr)
      have hz6 : w1.heap.size < W6.heap.size := Nat.lt_of_lt_of_le (by omega) hgr.size
      have HKEEP := Lib.hid (And.intro hbw (And.intro e6 (And.intro r6 (And.intro f6 hz6))))
      have d5 := hfz k
      clear hx hss hcz hst hgr hK hK' hC5 hP5 ho5 hbw e6 r6 f6 hz6 hfz hsv
      go_wp2_with fail
      go_region_law (refine step_append_run rfl _ _ 86 rfl rfl rfl hrun ?_)
      all_goals
        go_wp2
        go_roundw
        case rel => exact ⟨k + 1, _, by omega, by go_num, by simp [HVS.out], HST.out, HC6, HKEEP.out.1, HKEEP.out.2.1, HKEEP.out.2.2.1, HKEEP.out.2.2.2.1, HKEEP.out.2.2.2.2⟩
        case measure => simp [intOf]; omega
    · have hkn : k = 4 := by omega
      subst hkn
      have HF := Lib.hid (show OwnRw wr (w.heap.size + 1 + 1) wr.heap.size (.slice (some ⟨w.heap.size + 1 + 1, 0, none⟩) 4 4) b from by
        have h1 := HO.out
        rw [Nat.sub_self, List.replicate_zero, List.append_nil] at h1
        have h2 := HC.out
        rw [List.take_of_length_le (by rw [H4.out]; exact Nat.le_refl _)] at h2
        exact ⟨vs, w1.heap.size + 1, ⟨h1, fun x hx => by simp [Value.ownBlock] at hx; omega, by omega⟩, h2⟩)
      go_wp2_with fail
      refine bodyPost_ret (v := .agg #[.slice (some ⟨w.heap.size + 1 + 1, 0, none⟩) 4 4]) ?_ rfl ⟨_, rfl, ?_, hbr.setCell (by simp only; omega) _⟩
      · simp [results, Tryd.results77, go_sem, cr]
      · rw [show (wr.setCell ⟨w.heap.size + 1, 0, none⟩ (.slice (some ⟨w.heap.size + 1 + 1, 0, none⟩) 4 4)).heap.size = wr.heap.size from by simp]
        exact OwnRw.mono (OwnRw.keep HF.out (Kpi.setCell _ (.inl (by simp only; omega)))) (by omega) (Nat.le_refl _)
theorem sl4_form {lo : Nat} {w : World} {v0 v1 v2 v3 : Value} {b : Bx} (h : All2 (Sps lo w) [v0, v1, v2, v3] b) :
    ∃ a0 n0 p0 a1 n1 p1 a2 n2 p2 a3 n3 p3, v0 = .slice a0 n0 p0 ∧ v1 = .slice a1 n1 p1 ∧ v2 = .slice a2 n2 p2 ∧ v3 = .slice a3 n3 p3 := by
  match b, h.1 with
  | [x0, x1, x2, x3], _ =>
    obtain ⟨a0, c0, h0, _⟩ := (h.2 0 v0 x0 rfl rfl).form
    obtain ⟨a1, c1, h1, _⟩ := (h.2 1 v1 x1 rfl rfl).form
    obtain ⟨a2, c2, h2, _⟩ := (h.2 2 v2 x2 rfl rfl).form
    obtain ⟨a3, c3, h3, _⟩ := (h.2 3 v3 x3 rfl rfl).form
    exact ⟨_, _, _, _, _, _, _, _, _, _, _, _, h0, h1, h2, h3⟩
set_option maxHeartbeats 2000000 in
set_option maxRecDepth 100000 in
theorem newFlats_any {lo : Nat} (fs : List Ft) (v : Value) (w : World) (hs : Ifs lo w v fs) (hle : ∀ (k : Nat) f, fs[k]? = some f → ∀ (j : Nat) xs, f.box[j]? = some xs → xs.length ≤ 1000000) (hl : fs.length ≤ 1000000) :
    Calls Tryd.prog 86 #[v] w fun e w' => ∃ v', e = .returned v' ∧ GFs w' w.heap.size w'.heap.size v' fs ∧ Below w.heap.size w w' := by
  obtain ⟨a, cap, rfl, hlc, hcm⟩ := hs.form
  unfold maxLen at hcm
  generalize hn : fs.length = n at *
  have HN := Lib.hid hn
  have HS := Lib.hid hs
  have HLE := Lib.hid hle
  obtain ⟨i0, hi, hy0, hy1, hy2⟩ := info_parts infoFt
  clear hn hs hle
  go_enter Tryd.func86, Tryd.ntmps86
  go_wp2_with (at_make; refine wpList_make_own _ rfl _ _ 37 rfl w.heap.size 74 i0 _ 2 Tryd.underlying37 hi hy0 hy1 _ _ _ n rfl rfl rfl ?b1 ?b2 ?b3 ?_)
  case b1 => rw [hy2]; omega
  case b2 => simp only [maxLen]; omega
  case b3 => omega
  intro w1 hown1 hgrow1
  have hb1 : Below w.heap.size w w1 := (Below.refl _ _).grown hgrow1 (Nat.le_refl _) (fun k hk => by cases hk)
  have HO1 := Lib.hid (show OwnSl w.heap.size 74 2 RF.enc w1 (.slice (some ⟨w.heap.size, 0, none⟩) 0 n) ([] : List RF) by simpa [OwnSl] using hown1)
  clear hown1 hgrow1
  go_wp2_with fail
  go_loopw [3, 5, 11] (fun o _ i wr => ∃ (k : Nat) (rs : List RF), k ≤ n ∧ i = .int .i64 k ∧ OwnSl w.heap.size 74 2 RF.enc wr o rs ∧ Hid (∀ z, o.ownBlock = some z → z < wr.heap.size) ∧ Hid (OwnD (fun l h y z => PFg wr l h y z ∧ Off o.ownBlock l h) w.heap.size wr.heap.size rs (fs.take k)) ∧ Below w.heap.size w wr) (fun _ _ i _ => n - (intOf i).toNat)
  case atStart => exact ⟨0, [], by omega, rfl, HO1.out, Lib.hid (fun z hz => (World.ownsRow.lt HO1.out z hz).2), Lib.hid hb1.size, hb1⟩
  case round =>
    obtain ⟨k, rs, hk, rfl, hO, HX, HD, hbr⟩ := hrel
    have HO := Lib.hid hO
    clear hO HO1 hb1
    have hzr := hbr.size
    by_cases hlt : k < n
    · have i1 : (k : Int) < (n : Int) := by omega
      have i2 : (0 : Int) ≤ (k : Int) := by omega
      obtain ⟨f, hx⟩ : ∃ f, fs[k]? = some f := ⟨_, List.getElem?_eq_getElem (by rw [HN.out]; exact hlt)⟩
      obtain ⟨b, o, v0, v1, v2, v3, rfl, hbl, c0, c1, c2, c3, c4, hss⟩ := (HS.out.below hbr).at hx
      obtain ⟨a0, n0, p0, a1, n1, p1, a2, n2, p2, a3, n3, p3, rfl, rfl, rfl, rfl⟩ := sl4_form hss
      have HXX := Lib.hid hx
      have HSS := Lib.hid hss
      have HLF := Lib.hid (HLE.out k f hx)
      obtain ⟨p, hp⟩ : ∃ p, f.acc = p := ⟨_, rfl⟩
      rw [hp] at c4
      have HP := Lib.hid hp
      clear hx hss hp
      have hal : Below wr.heap.size wr ((wr.alloc (.cells #[.slice a0 n0 p0, .slice a1 n1 p1, .slice a2 n2 p2, .slice a3 n3 p3, .bool p] 152)).drew) := ((Below.refl _ _).alloc (Nat.le_refl _) _).drew
      have kk : ((wr.alloc (.cells #[.slice a0 n0 p0, .slice a1 n1 p1, .slice a2 n2 p2, .slice a3 n3 p3, .bool p] 152)).drew).cell? ⟨wr.heap.size, 4, none⟩ = some (.bool p) := by simp [World.cell?_drew]
      have ks : wr.heap.size < ((wr.alloc (.cells #[.slice a0 n0 p0, .slice a1 n1 p1, .slice a2 n2 p2, .slice a3 n3 p3, .bool p] 152)).drew).heap.size := by simp [World.drew]
      have kz : ((wr.alloc (.cells #[.slice a0 n0 p0, .slice a1 n1 p1, .slice a2 n2 p2, .slice a3 n3 p3, .bool p] 152)).drew).heap.size = wr.heap.size + 1 := by simp [World.drew]
      have HAL := Lib.hid hal
      have HKK := Lib.hid (And.intro kk (And.intro ks kz))
      have HBR := Lib.hid hbr
      have HBD := Lib.hid (show rs.length ≤ 1000000 by have := HD.out.len; rw [List.length_take] at this; omega)
      clear kk ks kz hbr hal
      go_wp2_with fail
      go_region_law (first | ((fail_if_success have := hb4); go_simp; go_wp2_with (go_at_call 77; refine (box_any f.box _ _ _ _ wr _ HSS.out HAL.out HLF.out).mono ?_; rintro e w4 ⟨v4, rfl, ho4, hb4⟩; obtain ⟨va4, vc4, rfl, -, -⟩ := ho4.rws.form; have e1 := (hb4.cell (p := ⟨wr.heap.size, 4, none⟩) HKK.out.2.1).trans HKK.out.1)) | (refine step_append_lies _ rfl (.tmp 15) (.tmp 22) 37 rfl w.heap.size 74 i0 _ 2 32 Tryd.underlying37 hi hy0 hy1 hy2 rfl (by decide) u3 rs.length (rs.flatMap RF.enc) (by simp [Act.eval]) (World.ownsRow.alloc (OwnSl.kept HO.out (HAL.out.trans (hb4.mono HAL.out.size))) _) ⟨w4.heap.size, 0, none⟩ 1 1 (RF.enc ⟨.slice va4 f.box.length vc4, p⟩) (by simp [Act.eval]) rfl (cellsNew w4 (RF.enc ⟨.slice va4 f.box.length vc4, p⟩) _) (by simp [Value.oneCell']) (by decide) (by have := HBD.out; simp only [maxLen]; omega) (by have := HBD.out; omega) (by have := hb4.size; have := HAL.out.size; have := HBR.out.size; simp; omega) _ rfl ?_; intro g5 cap5 w5 hown5 hgrow5 hlies5 hlt5))
      all_goals
        have hw4 : Below wr.heap.size wr w4 := HAL.out.trans (hb4.mono HAL.out.size)
        have hz4 := hw4.size
        have hz5 := hb4.size
        rw [HKK.out.2.2] at hz5 ho4
        have hq4 : PFg w4 wr.heap.size w4.heap.size ⟨.slice va4 f.box.length vc4, p⟩ f := ⟨(OwnRw.mono ho4 (by omega) (Nat.le_refl _)).g, HP.out.symm⟩
        have hp5 := OwnG.push (P := PFg) (e := 74) (sz := 2) (enc := RF.enc) PFg.kind (w := wr) (w1 := w4) HD.out HX.out (by omega) hw4 hq4 (grown_old hgrow5) (OwnSl.pushed rfl hown5) hlies5 hlt5 (by simp)
        have hB : Below w.heap.size w w5 := belGrown ((HBR.out.trans (hw4.mono HBR.out.size)).alloc (by omega) _) (World.ownsRow.alloc (OwnSl.kept HO.out hw4) _) hgrow5 (by simp; omega)
        have HP5 := Lib.hid hp5
        clear hown5 hgrow5 hlies5 hlt5 e1 ho4 hb4 hw4 hq4 hp5
        go_wp2
        go_roundw
        case rel =>
          obtain ⟨vs6, ho6, hv6, hl6, hd6⟩ := HP5.out
          refine ⟨k + 1, vs6, by omega, by go_num, ho6, Lib.hid hv6, Lib.hid ?_, hB⟩
          rw [List.take_add_one, HXX.out]
          exact hd6
        case measure => simp [intOf]; omega
    · have hkn : k = n := by omega
      go_wp2
      go_ret
      refine ⟨u3, rfl, ⟨rs, HO.out, HX.out, hzr, ?_⟩, hbr⟩
      have := HD.out
      rwa [List.take_of_length_le (by rw [HN.out]; omega)] at this
end Go.Proofs.YtnnmkdaioajkkaaDoor
