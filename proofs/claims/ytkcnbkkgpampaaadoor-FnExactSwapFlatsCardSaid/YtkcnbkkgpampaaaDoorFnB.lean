/- A new box of the program's: copies of the sets. -/
import Derived.Test.YtkcnbkkgpampaaaDoorFoD
import Derived.Test.YtkcnbkkgpampaaaDoorAppN
import Derived.Deep.RegionLaw
namespace Go.Proofs.YtkcnbkkgpampaaaDoor
open Go.RowKit
set_option maxHeartbeats 2000000 in
set_option maxRecDepth 100000 in
theorem box_any {lo : Nat} (b : Bx) (v0 v1 v2 v3 : Value) (w0 w : World) (hs : All2 (Sps lo w0) [v0, v1, v2, v3] b) (hb0 : Below w0.heap.size w0 w) (hle : ∀ (k : Nat) xs, b[k]? = some xs → xs.length ≤ 1000000) :
    Calls Tryd.prog 107 #[.agg #[v0, v1, v2, v3]] w (RetBx b w) := by
  have h4 : b.length = 4 := hs.1.symm
  have H4 := Lib.hid h4
  have HS := Lib.hid hs
  have HLE := Lib.hid hle
  obtain ⟨i0, hi, hz0, hz1, hz2⟩ := info_parts infoSl
  obtain ⟨j0, hj, hj0, hj1, hj2⟩ := info_parts infoSp
  clear hs h4 hle
  go_enter Tryd.func107, Tryd.ntmps107
  go_wp2_with (at_make; refine wpList_make_full _ rfl _ _ 48 rfl (w.heap.size + 1 + 1) 100 i0 _ 1 Tryd.underlying48 hi hz0 hz1 _ _ _ _ 4 rfl rfl rfl rfl ?b1 ?b2 ?b3 ?_)
  case b1 => rw [hz2]; omega
  case b2 => simp only [maxLen]; omega
  case b3 => simp
  intro w1 hown1 hgrow1
  have HO1 := Lib.hid (show OwnSl (w.heap.size + 1 + 1) 100 1 enc1 w1 (.slice (some ⟨w.heap.size + 1 + 1, 0, none⟩) 4 4) (List.replicate 4 (Value.slice none 0 0)) by unfold OwnSl; rw [List.length_replicate, ← madeFlat (sz := 1) (enc := enc1) (fun _ => rfl) (by omega) (.slice none 0 0) (Value.slice none 0 0) rfl, Nat.mul_one]; exact hown1)
  have hzw : w.heap.size + 1 + 1 < w1.heap.size := by
    rcases OwnSl.form HO1.out with ⟨h, _⟩ | ⟨g, cp, h, _, h2, _⟩
    · cases h
    · obtain ⟨h3, _, _⟩ := Value.slice.inj h; cases h3; exact h2
  have hal : Below w.heap.size w ((w.alloc (.cells #[v0, v1, v2, v3] 102)).alloc (.cells #[.slice none 0 0] 50)) := by (repeat' (first | with_reducible exact Below.refl _ _ | with_reducible assumption | with_reducible refine Below.setCell ?_ ?_ _ | with_reducible refine Below.alloc ?_ ?_ _ | with_reducible refine Below.drew ?_ | with_reducible refine belDrewN ?_ _ | with_reducible refine Below.trans ?_ (Below.mono (by assumption) ?_) | omega | (simp; omega) | (simp; done)))
  have hw1 : Below w.heap.size w w1 := hal.grown hgrow1 (by simp; omega) (fun k hk => by cases hk)
  have hfar : ∀ p : Addr, p.block < w.heap.size + 1 + 1 → w1.cell? p = ((w.alloc (.cells #[v0, v1, v2, v3] 102)).alloc (.cells #[.slice none 0 0] 50)).cell? p ∧ w1.frozen? p = ((w.alloc (.cells #[v0, v1, v2, v3] 102)).alloc (.cells #[.slice none 0 0] 50)).frozen? p := fun p hp => ⟨hgrow1.cell_far p (by simp; omega) (fun h => by cases h), hgrow1.frozen_far p (by simp; omega) (fun h => by cases h)⟩
  have s0 : w1.cell? ⟨w.heap.size, 0, none⟩ = some v0 := by rw [(hfar _ (by simp only; omega)).1]; simp
  have s1 : w1.cell? ⟨w.heap.size, 1, none⟩ = some v1 := by rw [(hfar _ (by simp only; omega)).1]; simp
  have s2 : w1.cell? ⟨w.heap.size, 2, none⟩ = some v2 := by rw [(hfar _ (by simp only; omega)).1]; simp
  have s3 : w1.cell? ⟨w.heap.size, 3, none⟩ = some v3 := by rw [(hfar _ (by simp only; omega)).1]; simp
  have r0 : w1.cell? ⟨w.heap.size + 1, 0, none⟩ = some (.slice none 0 0) := by rw [(hfar _ (by simp only; omega)).1]; simp
  have rf : w1.frozen? ⟨w.heap.size + 1, 0, none⟩ = false := by rw [(hfar _ (by simp only; omega)).2]; simp
  have hs0 : w.heap.size < w1.heap.size := by omega
  have hs1 : w.heap.size + 1 < w1.heap.size := by omega
  clear hown1 hgrow1 hfar hal
  go_wp2_with fail
  go_loopw [4, 5, 9] (fun _ _ i wr => ∃ (k : Nat) (vs : List Value), k ≤ 4 ∧ i = .int .i64 k ∧ vs.length = k ∧ OwnSl (w.heap.size + 1 + 1) 100 1 enc1 wr (.slice (some ⟨w.heap.size + 1 + 1, 0, none⟩) 4 4) (vs ++ List.replicate (4 - k) (Value.slice none 0 0)) ∧ Hid (OwnC (PSp wr) (w1.heap.size + 1) wr.heap.size vs (b.take k)) ∧ Below w.heap.size w wr ∧
    wr.cell? ⟨w1.heap.size, 0, none⟩ = some (.slice (some ⟨w.heap.size + 1 + 1, 0, none⟩) 4 4) ∧ wr.cell? ⟨w.heap.size + 1, 0, none⟩ = some (.slice none 0 0) ∧ wr.frozen? ⟨w.heap.size + 1, 0, none⟩ = false ∧ w1.heap.size < wr.heap.size) (fun _ _ i _ => 4 - (intOf i).toNat)
  case atStart =>
    refine ⟨0, [], by omega, rfl, rfl, ?_, Lib.hid (by show _ ≤ _; simp), hw1.alloc (by omega) _, by simp, ?_, ?_, by simp⟩
    · exact World.ownsRow.alloc HO1.out _
    · rw [World.cell?_alloc_lt _ _ ⟨w.heap.size + 1, 0, none⟩ hs1]; exact r0
    · rw [World.frozen?_alloc_old _ _ ⟨w.heap.size + 1, 0, none⟩ (by simp only; omega)]; exact rf
  case round =>
    obtain ⟨k, vs, hk4, rfl, hvs, hO, HC, hbr, cb, cr, fr, hzb⟩ := hrel
    have HO := Lib.hid hO
    have HVS := Lib.hid hvs
    have hzr := hbr.size
    clear hO hvs
    by_cases hlt : k < 4
    · have i1 : (k : Int) < 4 := by omega
      have i2 : (0 : Int) ≤ (k : Int) := by omega
      obtain ⟨xs, hx⟩ : ∃ xs, b[k]? = some xs := ⟨_, List.getElem?_eq_getElem (by rw [H4.out]; exact hlt)⟩
      obtain ⟨sv, hsv, hss⟩ := HS.out.left hx
      have HX := Lib.hid hx
      have hxi : ∀ w : World, (Instr.index 102 (.agg #[v0, v1, v2, v3]) (.int .i64 (k : Int))).run Tryd.prog w = .ok sv w := by
        intro w
        rcases (by omega : k = 0 ∨ k = 1 ∨ k = 2 ∨ k = 3) with rfl | rfl | rfl | rfl <;> (cases hsv; kernel_rfl)
      have hb0r : Below w0.heap.size w0 wr.drew := (hb0.trans (hbr.mono hb0.size)).drew
      obtain ⟨v5, w5, hrun, ho5, hb5⟩ := run_append_copy_nil (sz := 2) (enc := Sp.enc) (by omega) (fun _ => rfl) (P := Tryd.prog) (w := wr.drew) 100 100 113 j0 _ 16 Tryd.underlying100 hj hj0 hj1 hj2 rfl (v := sv) (xs := xs) (fun u hu => by obtain ⟨s, _, hs⟩ := List.mem_flatMap.1 hu; simp only [List.mem_cons, List.not_mem_nil, or_false] at hs; rcases hs with rfl | rfl <;> rfl) (SlFr.at (hss.below hb0r)) (by have := HLE.out k xs hx; omega)
      replace hb5 : Below wr.heap.size wr w5 := (Below.drew (Below.refl _ _)).trans hb5
      have hz5 := hb5.size
      obtain ⟨va, vc, rfl, -, -⟩ := (OwnSp.sps ho5).form
      have HO5 := Lib.hid (OwnSl.kept HO.out hb5)
      have hP5 : PSp w5 wr.heap.size w5.heap.size (.slice va xs.length vc) xs := ⟨ho5, fun x hx => (World.ownsRow.lt ho5 x hx).2, hz5⟩
      have hC5 : OwnC (PSp w5) (w1.heap.size + 1) wr.heap.size vs (b.take k) := OwnC.imp PSp.le HC.out (fun l h x y _ _ g3 => OwnI.keep g3 (Kpi.of hb5))
      have HL := Lib.hid (show (vs ++ List.replicate (4 - k) (Value.slice none 0 0)).length = 4 by simp [HVS.out]; omega)
      obtain ⟨hst, hgr⟩ := OwnSl.store (sz := 1) (enc := enc1) (fun _ => rfl) HL.out.symm HO5.out (k := k) (by rw [HL.out]; exact hlt) (.slice va xs.length vc)
      rw [set_rep vs 4 k _ (.slice va xs.length vc) HVS.out hlt] at hst
      have hfz : ∀ j, w5.frozen? ⟨w.heap.size + 1 + 1, j, none⟩ = false := OwnSl.frz HO5.out
      have hcz := OwnSl.cell (sz := 1) (enc := enc1) (fun _ => rfl) HO5.out (k := k) (y := Value.slice none 0 0) (by rw [List.getElem?_append_right (by rw [HVS.out]; exact Nat.le_refl _), HVS.out, Nat.sub_self, List.getElem?_replicate, if_pos (by omega)])
      have d0 := hcz 0 _ rfl
      simp only [Nat.add_zero, Nat.mul_one, wSet] at d0 hst hgr
      obtain ⟨W6, hW6⟩ : ∃ W6, w5.setCell ⟨w.heap.size + 1 + 1, k, none⟩ (.slice va xs.length vc) = W6 := ⟨_, rfl⟩
      rw [hW6] at hst hgr
      have hK : Kpi (w1.heap.size + 1) wr.heap.size w5 W6 := ⟨hgr.size, fun j g1 _ g3 => hgr.block j g3 (by intro e; cases e; omega)⟩
      have hK' : Kpi wr.heap.size w5.heap.size w5 W6 := ⟨hgr.size, fun j g1 _ g3 => hgr.block j g3 (by intro e; cases e; omega)⟩
      have HC6 := Lib.hid (show OwnC (PSp W6) (w1.heap.size + 1) W6.heap.size (vs ++ [.slice va xs.length vc]) (b.take (k + 1)) by
        rw [List.take_add_one, HX.out]
        refine OwnC.snoc (OwnC.imp PSp.le hC5 (fun l h x y g1 g2 g3 => OwnI.keep g3 (hK.sub g1 g2))) (fun l hl => ?_) (Nat.le_trans hz5 hgr.size)
        obtain ⟨q1, q2, q3⟩ := OwnI.keep hP5 hK'
        exact ⟨OwnSl.mono q1 hl, fun x hx => Nat.lt_of_lt_of_le (q2 x hx) hgr.size, Nat.le_trans hl (Nat.le_trans hz5 hgr.size)⟩)
      have HST := Lib.hid hst
      have hbw : Below w.heap.size w W6 := (hbr.trans (hb5.mono hzr)).grown hgr (by omega) (fun k hk => by cases hk; omega)
      have e5 := (hb5.cell (p := ⟨w1.heap.size, 0, none⟩) hzb).trans cb
      have e6 := (hgr.cell_far ⟨w1.heap.size, 0, none⟩ (by simp only; omega) (by intro e; simp [Value.ownBlock] at e; omega)).trans e5
      have r6 := (hgr.cell_far ⟨w.heap.size + 1, 0, none⟩ (by simp only; omega) (by intro e; simp [Value.ownBlock] at e)).trans ((hb5.cell (p := ⟨w.heap.size + 1, 0, none⟩) (by simp only; omega)).trans cr)
      have f6 := (hgr.frozen_far ⟨w.heap.size + 1, 0, none⟩ (by simp only; omega) (by intro e; simp [Value.ownBlock] at e)).trans ((hb5.frozen (p := ⟨w.heap.size + 1, 0, none⟩) (by simp only; omega)).trans fr)
      have hz6 : w1.heap.size < W6.heap.size := Nat.lt_of_lt_of_le (by omega) hgr.size
      have HKEEP := Lib.hid (And.intro hbw (And.intro e6 (And.intro r6 (And.intro f6 hz6))))
      have d5 := hfz k
      clear hx hss hcz hst hgr hK hK' hC5 hP5 ho5 hbw e6 r6 f6 hz6 hfz hsv
      go_wp2_with fail
      go_region_law (refine step_append_run rfl _ _ 100 rfl rfl rfl hrun ?_)
      all_goals
        go_wp2
        go_roundw
        case rel => exact ⟨k + 1, _, by omega, by go_num, by simp [HVS.out], HST.out, HC6, HKEEP.out.1, HKEEP.out.2.1, HKEEP.out.2.2.1, HKEEP.out.2.2.2.1, HKEEP.out.2.2.2.2⟩
        case measure => simp [intOf]; omega
    · have hkn : k = 4 := by omega
      subst hkn
      have HF := Lib.hid (show OwnRw wr (w.heap.size + 1 + 1) wr.heap.size (.slice (some ⟨w.heap.size + 1 + 1, 0, none⟩) 4 4) b from by
        have h1 := HO.out
        rw [Nat.sub_self, List.replicate_zero, List.append_nil] at h1
        have h2 := HC.out
        rw [List.take_of_length_le (by rw [H4.out]; exact Nat.le_refl _)] at h2
        exact ⟨vs, w1.heap.size + 1, ⟨h1, fun x hx => by simp [Value.ownBlock] at hx; omega, by omega⟩, h2⟩)
      go_wp2_with fail
      refine bodyPost_ret (v := .agg #[.slice (some ⟨w.heap.size + 1 + 1, 0, none⟩) 4 4]) ?_ rfl ⟨_, rfl, ?_, hbr.setCell (by simp only; omega) _⟩
      · simp [results, Tryd.results107, go_sem, cr]
      · rw [show (wr.setCell ⟨w.heap.size + 1, 0, none⟩ (.slice (some ⟨w.heap.size + 1 + 1, 0, none⟩) 4 4)).heap.size = wr.heap.size from by simp]
        exact OwnRw.mono (OwnRw.keep HF.out (Kpi.setCell _ (.inl (by simp only; omega)))) (by omega) (Nat.le_refl _)
end Go.Proofs.YtkcnbkkgpampaaaDoor
