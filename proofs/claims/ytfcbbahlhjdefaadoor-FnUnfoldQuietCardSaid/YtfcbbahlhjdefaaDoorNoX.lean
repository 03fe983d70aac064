/- Newly open packets: both functions. -/
import Derived.Test.YtfcbbahlhjdefaaDoorFdS
import Derived.Test.YtfcbbahlhjdefaaDoorUSn
namespace Go.Proofs.YtfcbbahlhjdefaaDoor
open Go.RowKit
/-- The first k sets are there. -/
def SDm (b : Bx) (S : Nat) (w : World) (k : Nat) : Prop := ∀ j, j < 4 → ∃ v, w.cell? ⟨S, j, none⟩ = some v ∧ ((j < k ∧ Sps (S + 1) w v (b.getD j [])) ∨ (k ≤ j ∧ v = .slice none 0 0))
theorem SDm.below {b : Bx} {S : Nat} {w w' : World} {k : Nat} (h : SDm b S w k) (hS : S < w.heap.size) (hb : Below w.heap.size w w') : SDm b S w' k := fun j hj => by
  obtain ⟨v, h1, h2⟩ := h j hj
  exact ⟨v, (hb.cell (p := ⟨S, j, none⟩) hS).trans h1, h2.imp (fun ⟨g1, g2⟩ => ⟨g1, g2.below hb⟩) id⟩
theorem SDm.step {b : Bx} {S : Nat} {w : World} {k : Nat} {v : Value} (h : SDm b S w k) (hv : Sps (S + 1) w v (b.getD k [])) : SDm b S (w.setCell ⟨S, k, none⟩ v) (k + 1) := fun j hj => by
  have hkp : Kp (S + 1) w (w.setCell ⟨S, k, none⟩ v) := ⟨by simp, fun q q1 _ => Below.heap_setCell _ _ _ _ (by simp only; omega)⟩
  obtain ⟨u, h1, h2⟩ := h j hj
  by_cases e : j = k
  · subst e
    exact ⟨v, World.cell?_setCell_same' _ _ _ (by rw [h1]; rfl), .inl ⟨by omega, hv.keep hkp⟩⟩
  · refine ⟨u, by rw [World.cell?_setCell_other _ _ _ _ (fun e2 => e (Addr.mk.inj e2).2.1.symm)]; exact h1, ?_⟩
    rcases h2 with ⟨g1, g2⟩ | ⟨g1, g2⟩
    · exact .inl ⟨by omega, g2.keep hkp⟩
    · exact .inr ⟨by omega, g2⟩
def Zro4 (S : Nat) (w : World) : Prop := S < w.heap.size ∧ (∀ j, j < 4 → w.cell? ⟨S, j, none⟩ = some (.slice none 0 0)) ∧ ∀ j, w.frozen? ⟨S, j, none⟩ = false
theorem Zro4.below {S : Nat} {w w' : World} (h : Zro4 S w) (hb : Below w.heap.size w w') : Zro4 S w' :=
  ⟨Nat.lt_of_lt_of_le h.1 hb.size, fun j hj => (hb.cell (p := ⟨S, j, none⟩) h.1).trans (h.2.1 j hj), fun j => (hb.frozen (p := ⟨S, j, none⟩) h.1).trans (h.2.2 j)⟩
theorem bmeet_fits {a b : Bx} (ha : bvalid a = true) (hb : bvalid b = true) (h : ∀ k, k < 4 → ((bmeet a b).getD k []).length ≤ 40) : bvalid (bmeet a b) = true := by
  refine bvalid_iff.2 ⟨bmeet_len (bvalid_iff.1 ha).1 (bvalid_iff.1 hb).1, fun n hn => ?_⟩
  obtain ⟨z, hz, gz⟩ := bmeet_good ha hb hn
  have := h n hn
  rw [getD_get hz] at this ⊢
  rw [svalid_of hn gz]
  exact decide_eq_true this
theorem bmeet_not {a b : Bx} {k : Nat} (hk : k < 4) (h : ¬ ((bmeet a b).getD k []).length ≤ 40) : bvalid (bmeet a b) = false := by
  rw [← Bool.not_eq_true]
  intro hv
  exact h (svalid_len ((bvalid_iff.1 hv).2 k hk))
set_option maxHeartbeats 4000000 in
set_option maxRecDepth 100000 in
theorem meet_any {lo lo' : Nat} (a b : Bx) (v0 v1 v2 v3 u0 u1 u2 u3 : Value) (w : World) (ht : Tab w) (hs : All2 (Sps lo w) [v0, v1, v2, v3] a) (hu : All2 (Sps lo' w) [u0, u1, u2, u3] b) (ha : bvalid a = true) (hb : bvalid b = true) :
    Calls Tryd.prog 59 #[.agg #[v0, v1, v2, v3], .agg #[u0, u1, u2, u3]] w fun e w' => ∃ a0 n0 p0 a1 n1 p1 a2 n2 p2 a3 n3 p3, e = .returned (.tuple #[.agg #[.slice a0 n0 p0, .slice a1 n1 p1, .slice a2 n2 p2, .slice a3 n3 p3], .bool (bvalid (bmeet a b))]) ∧ (bvalid (bmeet a b) = true → All2 (Sps w.heap.size w') [.slice a0 n0 p0, .slice a1 n1 p1, .slice a2 n2 p2, .slice a3 n3 p3] (bmeet a b)) ∧ Below w.heap.size w w' := by
  obtain ⟨x0, y0, z0, x1, y1, z1, x2, y2, z2, x3, y3, z3, rfl, rfl, rfl, rfl⟩ := sl4_form hs
  obtain ⟨X0, Y0, Z0, X1, Y1, Z1, X2, Y2, Z2, X3, Y3, Z3, rfl, rfl, rfl, rfl⟩ := sl4_form hu
  obtain ⟨W, hW⟩ : ∃ W, ((((w.alloc (.cells #[.slice x0 y0 z0, .slice x1 y1 z1, .slice x2 y2 z2, .slice x3 y3 z3] 84)).alloc (.cells #[.slice X0 Y0 Z0, .slice X1 Y1 Z1, .slice X2 Y2 Z2, .slice X3 Y3 Z3] 84)).alloc (.cells #[.slice none 0 0, .slice none 0 0, .slice none 0 0, .slice none 0 0] 84)).alloc (.cells #[.slice none 0 0, .slice none 0 0, .slice none 0 0, .slice none 0 0] 84)) = W := ⟨_, rfl⟩
  have hal : Below w.heap.size w W := by rw [← hW]; (repeat' (first | with_reducible exact Below.refl _ _ | with_reducible assumption | with_reducible refine Below.setCell ?_ ?_ _ | with_reducible refine Below.alloc ?_ ?_ _ | with_reducible refine Below.drew ?_ | with_reducible refine belDrewN ?_ _ | with_reducible refine Below.trans ?_ (Below.mono (by assumption) ?_) | omega | (simp; omega) | (simp; done)))
  have qz : W.heap.size = w.heap.size + 1 + 1 + 1 + 1 := by rw [← hW]; simp
  have HA4 := alloc4_cells w #[.slice x0 y0 z0, .slice x1 y1 z1, .slice x2 y2 z2, .slice x3 y3 z3] #[.slice X0 Y0 Z0, .slice X1 Y1 Z1, .slice X2 Y2 Z2, .slice X3 Y3 Z3] #[.slice none 0 0, .slice none 0 0, .slice none 0 0, .slice none 0 0] #[.slice none 0 0, .slice none 0 0, .slice none 0 0, .slice none 0 0] 84 84 84 84
  rw [hW] at HA4
  have hl1 : w.heap.size < W.heap.size := by omega
  have hl2 : w.heap.size + 1 < W.heap.size := by omega
  have HC1 := Lib.hid (show ∀ w', Below (w.heap.size + 1 + 1) W w' → ∀ j v, [Value.slice x0 y0 z0, .slice x1 y1 z1, .slice x2 y2 z2, .slice x3 y3 z3][j]? = some v → w'.cell? ⟨w.heap.size, j, none⟩ = some v from fun w' hb j v hj => by
    rw [hb.cell (p := ⟨w.heap.size, j, none⟩) (by simp only; omega), HA4.1 j]
    simpa using hj)
  have HC2 := Lib.hid (show ∀ w', Below (w.heap.size + 1 + 1) W w' → ∀ j v, [Value.slice X0 Y0 Z0, .slice X1 Y1 Z1, .slice X2 Y2 Z2, .slice X3 Y3 Z3][j]? = some v → w'.cell? ⟨w.heap.size + 1, j, none⟩ = some v from fun w' hb j v hj => by
    rw [hb.cell (p := ⟨w.heap.size + 1, j, none⟩) (by simp only; omega), HA4.2.1 j]
    simpa using hj)
  have HZ0 := Lib.hid (show Zro4 (w.heap.size + 1 + 1) W from ⟨by omega, fun j hj => by
    rw [(HA4.2.2.1 j).1]
    rcases (by omega : j = 0 ∨ j = 1 ∨ j = 2 ∨ j = 3) with rfl | rfl | rfl | rfl <;> rfl, fun j => (HA4.2.2.1 j).2⟩)
  have HD0 := Lib.hid (show SDm (bmeet a b) (w.heap.size + 1 + 1 + 1) W 0 from fun j hj => ⟨.slice none 0 0, by
    rw [(HA4.2.2.2 j).1]
    rcases (by omega : j = 0 ∨ j = 1 ∨ j = 2 ∨ j = 3) with rfl | rfl | rfl | rfl <;> rfl, .inr ⟨Nat.zero_le _, rfl⟩⟩)
  have HF0 := Lib.hid (show ∀ j, W.frozen? ⟨w.heap.size + 1 + 1 + 1, j, none⟩ = false from fun j => (HA4.2.2.2 j).2)
  have HS := Lib.hid hs
  have HU := Lib.hid hu
  have HA := Lib.hid ha
  have HB := Lib.hid hb
  have HT := Lib.hid ht
  clear HA4 hs hu ha hb ht
  go_enter Tryd.func59, Tryd.ntmps59
  go_wp2_with fail
  go_loopw [7, 8, 9, 10] (fun _ _ _ i wr => ∃ k : Nat, k ≤ 4 ∧ i = .int .i64 k ∧ Hid (∀ j, j < k → ((bmeet a b).getD j []).length ≤ 40) ∧ Hid (SDm (bmeet a b) (w.heap.size + 1 + 1 + 1) wr k) ∧ Hid (∀ j, wr.frozen? ⟨w.heap.size + 1 + 1 + 1, j, none⟩ = false) ∧ Below (w.heap.size + 1 + 1 + 1) W wr) (fun _ _ _ i _ => 4 - (intOf i).toNat)
  case atStart => exact ⟨0, by omega, rfl, Lib.hid (fun j h => by omega), HD0, HF0, Below.refl _ _⟩
  case round =>
    clear HD0 HF0 hW
    obtain ⟨k, hk, rfl, HK, HD, HF, hbr⟩ := hrel
    have hzr := hbr.size
    have hbr2 : Below (w.heap.size + 1 + 1) W wr := hbr.mono (by omega)
    have hwr := hal.trans (hbr.mono (by omega))
    have HZ := Lib.hid (show Zro4 (w.heap.size + 1 + 1) wr from ⟨by omega, fun j hj => (hbr.cell (p := ⟨w.heap.size + 1 + 1, j, none⟩) (by simp only; omega)).trans (HZ0.out.2.1 j hj), fun j => (hbr.frozen (p := ⟨w.heap.size + 1 + 1, j, none⟩) (by simp only; omega)).trans (HZ0.out.2.2 j)⟩)
    by_cases hlt : k < 4
    · have i1 : (k : Int) < 4 := by omega
      have i2 : (0 : Int) ≤ (k : Int) := by omega
      obtain ⟨x, hx, vx⟩ := bvalid_get HA.out hlt
      obtain ⟨y, hy, vy⟩ := bvalid_get HB.out hlt
      obtain ⟨sv, hsv, hss⟩ := HS.out.left hx
      obtain ⟨tv, htv, htt⟩ := HU.out.left hy
      have d1 := HC1.out wr hbr2 k sv hsv
      have d2 := HC2.out wr hbr2 k tv htv
      have hz1 : w.heap.size < wr.heap.size := by omega
      have hz2 : w.heap.size + 1 < wr.heap.size := by omega
      obtain ⟨M, hM⟩ : ∃ M, smeet x y = M := ⟨_, rfl⟩
      obtain ⟨r2, hr2⟩ : ∃ r, decide (M.length ≤ 40) = r := ⟨_, rfl⟩
      have HME := Lib.hid hM
      have HR2 := Lib.hid hr2
      have HMG := Lib.hid (show (bmeet a b).getD k [] = M by rw [getD_get (bmeet_get hx hy), hM])
      obtain ⟨sa, sn, sc, rfl⟩ : ∃ a n c, sv = .slice a n c := by obtain ⟨a, c, h, -, -⟩ := hss.form; exact ⟨_, _, _, h⟩
      obtain ⟨ta, tn, tc, rfl⟩ : ∃ a n c, tv = .slice a n c := by obtain ⟨a, c, h, -, -⟩ := htt.form; exact ⟨_, _, _, h⟩
      have HSS := Lib.hid (hss.below hwr)
      have HTT := Lib.hid (htt.below hwr)
      have GX := Lib.hid (svalid_good vx)
      have GY := Lib.hid (svalid_good vy)
      have HTR := Lib.hid (HT.out.below hwr)
      obtain ⟨t0, t1⟩ := top_le hlt
      clear hM hr2 hss htt hsv htv hx hy vx vy
      go_wp2_with fail
      (refine wp_region_bel (W := wr) [BIs (.int .i64 (k : Int)), BIs (.pointer (some ⟨w.heap.size, k, none⟩)), BIs (.slice sa sn sc), BIs (.int .i64 (k : Int)), BIs (.pointer (some ⟨w.heap.size + 1, k, none⟩)), BIs (.slice ta tn tc), BIs (.int .i64 (k : Int)), (BIs (.int .i64 (top k))), (fun w v => ∃ q, v = .tuple #[q, .bool r2] ∧ OwnSp wr.heap.size w q (slim M)), (fun w v => ∃ q, v = .tuple #[q, .bool r2] ∧ OwnSp wr.heap.size w q (slim M)), (fun w v => OwnSp wr.heap.size w v (slim M)), BIs (.bool r2), (fun w v => OwnSp wr.heap.size w v (slim M)), BIs (.bool r2)] (by kernel_rfl) (fun u => by simp only [frU, Act.put, List.setIfInBounds_toArray, List.set_cons_succ, List.set_cons_zero, Nat.zero_add, Nat.reduceAdd]; exact rfl) (by kernel_rfl) ⟨bst_is _, bst_is _, bst_is _, bst_is _, bst_is _, bst_is _, bst_is _, (bst_is _), (fun _ _ _ hb ⟨q, h1, h2⟩ => ⟨q, h1, OwnSl.kept h2 hb⟩), (fun _ _ _ hb ⟨q, h1, h2⟩ => ⟨q, h1, OwnSl.kept h2 hb⟩), (fun _ _ _ hb h => OwnSl.kept h hb), bst_is _, (fun _ _ _ hb h => OwnSl.kept h hb), bst_is _, trivial⟩ ?_ ?_; exact ⟨stB rfl (fun u w3 hC hd Q K hK => by (go_step; exact hK _ _ rfl (Below.refl _ _) rfl)), stB rfl (fun u w3 hC hd Q K hK => by (have hu := bis (w := w3) (hd 0 rfl); rw [hu] at hK ⊢; clear hu; go_step; exact hK _ _ rfl (Below.refl _ _) rfl)), stB rfl (fun u w3 hC hd Q K hK => by (have hu := bis (w := w3) (hd 1 rfl); rw [hu] at hK ⊢; clear hu; have z1 := (hC.cell (p := ⟨w.heap.size, k, none⟩) hz1).trans d1; go_step; exact hK _ _ rfl (Below.refl _ _) rfl)), stB rfl (fun u w3 hC hd Q K hK => by (go_step; exact hK _ _ rfl (Below.refl _ _) rfl)), stB rfl (fun u w3 hC hd Q K hK => by (have hu := bis (w := w3) (hd 3 rfl); rw [hu] at hK ⊢; clear hu; go_step; exact hK _ _ rfl (Below.refl _ _) rfl)), stB rfl (fun u w3 hC hd Q K hK => by (have hu := bis (w := w3) (hd 4 rfl); rw [hu] at hK ⊢; clear hu; have z1 := (hC.cell (p := ⟨w.heap.size + 1, k, none⟩) hz2).trans d2; go_step; exact hK _ _ rfl (Below.refl _ _) rfl)), stB rfl (fun u w3 hC hd Q K hK => by (go_step; exact hK _ _ rfl (Below.refl _ _) rfl)), stB rfl (fun u w3 hC hd Q K hK => by (have hu := bis (w := w3) (hd 6 rfl); rw [hu] at hK ⊢; clear hu; go_step; refine (FieldTop_any k hlt _ (HTR.out.below hC)).mono ?_; rintro e w4 ⟨rfl, rfl⟩; exact hK _ _ rfl (Below.refl _ _) rfl)), stB rfl (fun u w3 hC hd Q K hK => by (have hu := bis (w := w3) (hd 2 rfl); rw [hu] at hK ⊢; clear hu; have hu := bis (w := w3) (hd 5 rfl); rw [hu] at hK ⊢; clear hu; have hu := bis (w := w3) (hd 7 rfl); rw [hu] at hK ⊢; clear hu; go_step; refine (meetSpans_r HME.out HR2.out (HSS.out.below hC) (HTT.out.below hC) GX.out GY.out t0 t1).mono ?_; rintro e w4 ⟨z4, rfl, ho4, hb4⟩; exact hK _ _ rfl hb4 ⟨z4, rfl, OwnSl.mono ho4 hC.size⟩)), stB rfl (fun u w3 hC hd Q K hK => by (obtain ⟨y, hu, ho⟩ := hd 8 rfl; rw [hu] at hK ⊢; clear hu; go_step; exact hK _ _ rfl (Below.refl _ _) ⟨y, rfl, ho⟩)), stB rfl (fun u w3 hC hd Q K hK => by (obtain ⟨y, hu, ho⟩ := hd 9 rfl; rw [hu] at hK ⊢; clear hu; go_step; exact hK _ _ rfl (Below.refl _ _) ho)), stB rfl (fun u w3 hC hd Q K hK => by (obtain ⟨y, hu, -⟩ := hd 9 rfl; rw [hu] at hK ⊢; clear hu; go_step; exact hK _ _ rfl (Below.refl _ _) rfl)), stB rfl (fun u w3 hC hd Q K hK => by (have ho1 := hd 10 rfl; generalize u 10 = v1 at *; go_step; exact hK _ _ rfl (Below.refl _ _) ho1)), stB rfl (fun u w3 hC hd Q K hK => by (have hu := bis (w := w3) (hd 11 rfl); rw [hu] at hK ⊢; clear hu; go_step; exact hK _ _ rfl (Below.refl _ _) rfl)), trivial⟩); intro u w9 hb_w9 hF; rw [bis (w := w9) (hF 0 (by decide))]; rw [bis (w := w9) (hF 1 (by decide))]; rw [bis (w := w9) (hF 2 (by decide))]; rw [bis (w := w9) (hF 3 (by decide))]; rw [bis (w := w9) (hF 4 (by decide))]; rw [bis (w := w9) (hF 5 (by decide))]; rw [bis (w := w9) (hF 6 (by decide))]; generalize u 7 = vx7 at *; generalize u 8 = vx8 at *; generalize u 9 = vx9 at *; generalize u 10 = vx10 at *; rw [bis (w := w9) (hF 11 (by decide))]; have hz0 := hF 12 (by decide); generalize u 12 = z2 at *; rw [bis (w := w9) (hF 13 (by decide))]; clear hF
      replace hz0 : OwnSp wr.heap.size w9 z2 (slim M) := hz0
      obtain ⟨zb, zd, rfl, -, -⟩ := (OwnSp.sps hz0).form
      have hz9 := hb_w9.size
      have hB9 : Below (w.heap.size + 1 + 1 + 1) W w9 := hbr.trans (hb_w9.mono (by omega))
      have hw9 := hal.trans (hB9.mono (by omega))
      have HD9 := Lib.hid (HD.out.below (by omega) hb_w9)
      have HF9 := Lib.hid (fun j => (hb_w9.frozen (p := ⟨w.heap.size + 1 + 1 + 1, j, none⟩) (by simp only; omega)).trans (HF.out j))
      have HO9 := Lib.hid hz0
      have HZ9 := Lib.hid (HZ.out.below hb_w9)
      clear hz0 d1 d2 HD HF HZ hb_w9
      cases r2
      · have HNO := Lib.hid (bmeet_not (a := a) (b := b) hlt (by rw [HMG.out]; exact of_decide_eq_false HR2.out))
        obtain ⟨-, q2, q3⟩ := HZ9.out
        have k0 := q2 0 (by omega)
        have k1 := q2 1 (by omega)
        have k2 := q2 2 (by omega)
        have k3 := q2 3 (by omega)
        have g0 := q3 0
        have g1 := q3 1
        have g2 := q3 2
        have g3 := q3 3
        have hB : w.heap.size ≤ w.heap.size + 1 + 1 := by omega
        have hwS := (((hw9.setCell (p := ⟨w.heap.size + 1 + 1, 0, none⟩) hB (.slice none 0 0)).setCell (p := ⟨w.heap.size + 1 + 1, 1, none⟩) hB (.slice none 0 0)).setCell (p := ⟨w.heap.size + 1 + 1, 2, none⟩) hB (.slice none 0 0)).setCell (p := ⟨w.heap.size + 1 + 1, 3, none⟩) hB (.slice none 0 0)
        clear q2 q3
        go_wp2
        refine bodyPost_ret (v := .tuple #[.agg #[.slice none 0 0, .slice none 0 0, .slice none 0 0, .slice none 0 0], .bool false]) ?_ rfl ⟨_, _, _, _, _, _, _, _, _, _, _, _, by rw [HNO.out], fun h => (by rw [HNO.out] at h; cases h), hwS⟩
        simp [results, Tryd.results59, go_sem, k0, k1, k2, k3]
      · have HFT := Lib.hid (of_decide_eq_true HR2.out)
        have HSM := Lib.hid (show slim M = M by unfold slim; rw [if_pos HFT.out])
        obtain ⟨u, hu, -⟩ := HD9.out k hlt
        have hfk := HF9.out k
        have HK2 := Lib.hid (show ∀ j, j < k + 1 → ((bmeet a b).getD j []).length ≤ 40 from fun j hj => by
          rcases Nat.lt_or_ge j k with h1 | h1
          · exact HK.out j h1
          · rw [show j = k by omega, HMG.out]; exact HFT.out)
        have HDS := Lib.hid (HD9.out.step (v := .slice zb (slim M).length zd) (by rw [HMG.out]; exact (congrArg (fun L => Sps (w.heap.size + 1 + 1 + 1 + 1) w9 (.slice zb (slim M).length zd) L) HSM.out).mp (OwnSp.sps (OwnSl.mono HO9.out (show w.heap.size + 1 + 1 + 1 + 1 ≤ wr.heap.size by omega)))))
        have hbS := hB9.setCell (p := ⟨w.heap.size + 1 + 1 + 1, k, none⟩) (Nat.le_refl _) (.slice zb (slim M).length zd)
        have HFS := Lib.hid (show ∀ j, (w9.setCell ⟨w.heap.size + 1 + 1 + 1, k, none⟩ (.slice zb (slim M).length zd)).frozen? ⟨w.heap.size + 1 + 1 + 1, j, none⟩ = false from fun j => by rw [World.frozen?_setCell]; exact HF9.out j)
        go_wp2
        go_roundw
        case rel => exact ⟨k + 1, by omega, by go_num, HK2, HDS, HFS, hbS⟩
        case measure => simp [intOf]; omega
    · have hk4 : k = 4 := by omega
      subst hk4
      have HY := Lib.hid (bmeet_fits HA.out HB.out HK.out)
      obtain ⟨v0, c0, h0⟩ := HD.out 0 (by omega)
      obtain ⟨v1, c1, h1⟩ := HD.out 1 (by omega)
      obtain ⟨v2, c2, h2⟩ := HD.out 2 (by omega)
      obtain ⟨v3, c3, h3⟩ := HD.out 3 (by omega)
      replace h0 := h0.elim (fun h => h.2) (fun h => absurd h.1 (by omega))
      replace h1 := h1.elim (fun h => h.2) (fun h => absurd h.1 (by omega))
      replace h2 := h2.elim (fun h => h.2) (fun h => absurd h.1 (by omega))
      replace h3 := h3.elim (fun h => h.2) (fun h => absurd h.1 (by omega))
      obtain ⟨a0, n0, p0, rfl⟩ : ∃ a n c, v0 = .slice a n c := by obtain ⟨a, c, h, -, -⟩ := h0.form; exact ⟨_, _, _, h⟩
      obtain ⟨a1, n1, p1, rfl⟩ : ∃ a n c, v1 = .slice a n c := by obtain ⟨a, c, h, -, -⟩ := h1.form; exact ⟨_, _, _, h⟩
      obtain ⟨a2, n2, p2, rfl⟩ : ∃ a n c, v2 = .slice a n c := by obtain ⟨a, c, h, -, -⟩ := h2.form; exact ⟨_, _, _, h⟩
      obtain ⟨a3, n3, p3, rfl⟩ : ∃ a n c, v3 = .slice a n c := by obtain ⟨a, c, h, -, -⟩ := h3.form; exact ⟨_, _, _, h⟩
      obtain ⟨-, q2, q3⟩ := HZ.out
      have k0 := q2 0 (by omega)
      have k1 := q2 1 (by omega)
      have k2 := q2 2 (by omega)
      have k3 := q2 3 (by omega)
      have g0 := q3 0
      have g1 := q3 1
      have g2 := q3 2
      have g3 := q3 3
      have hB : w.heap.size ≤ w.heap.size + 1 + 1 := by omega
      have hwS := (((hwr.setCell (p := ⟨w.heap.size + 1 + 1, 0, none⟩) hB (.slice a0 n0 p0)).setCell (p := ⟨w.heap.size + 1 + 1, 1, none⟩) hB (.slice a1 n1 p1)).setCell (p := ⟨w.heap.size + 1 + 1, 2, none⟩) hB (.slice a2 n2 p2)).setCell (p := ⟨w.heap.size + 1 + 1, 3, none⟩) hB (.slice a3 n3 p3)
      have hkp : Kp (w.heap.size + 1 + 1 + 1 + 1) wr ((((wr.setCell ⟨w.heap.size + 1 + 1, 0, none⟩ (.slice a0 n0 p0)).setCell ⟨w.heap.size + 1 + 1, 1, none⟩ (.slice a1 n1 p1)).setCell ⟨w.heap.size + 1 + 1, 2, none⟩ (.slice a2 n2 p2)).setCell ⟨w.heap.size + 1 + 1, 3, none⟩ (.slice a3 n3 p3)) := ⟨by simp, fun q q1 _ => by
        rw [Below.heap_setCell _ _ _ _ (by simp only; omega), Below.heap_setCell _ _ _ _ (by simp only; omega), Below.heap_setCell _ _ _ _ (by simp only; omega), Below.heap_setCell _ _ _ _ (by simp only; omega)]⟩
      have hM4 := bmeet_len (bvalid_iff.1 HA.out).1 (bvalid_iff.1 HB.out).1
      have HRES := Lib.hid (show All2 (Sps w.heap.size ((((wr.setCell ⟨w.heap.size + 1 + 1, 0, none⟩ (.slice a0 n0 p0)).setCell ⟨w.heap.size + 1 + 1, 1, none⟩ (.slice a1 n1 p1)).setCell ⟨w.heap.size + 1 + 1, 2, none⟩ (.slice a2 n2 p2)).setCell ⟨w.heap.size + 1 + 1, 3, none⟩ (.slice a3 n3 p3))) [.slice a0 n0 p0, .slice a1 n1 p1, .slice a2 n2 p2, .slice a3 n3 p3] (bmeet a b) from ⟨by rw [hM4]; rfl, fun j x y hx hy => by
        have hy' := getD_get (d := []) hy
        match j, hx with
        | 0, hx => cases hx; rw [← hy']; exact (h0.keep hkp).mono (by omega)
        | 1, hx => cases hx; rw [← hy']; exact (h1.keep hkp).mono (by omega)
        | 2, hx => cases hx; rw [← hy']; exact (h2.keep hkp).mono (by omega)
        | 3, hx => cases hx; rw [← hy']; exact (h3.keep hkp).mono (by omega)
        | j + 4, hx => simp at hx⟩)
      have hne2 : ∀ p q : Nat, (⟨w.heap.size + 1 + 1, p, none⟩ : Addr) ≠ ⟨w.heap.size + 1 + 1 + 1, q, none⟩ := fun p q e => by have := (Addr.mk.inj e).1; omega
      clear q2 q3 h0 h1 h2 h3 hkp
      go_wp2
      refine bodyPost_ret (v := .tuple #[.agg #[.slice a0 n0 p0, .slice a1 n1 p1, .slice a2 n2 p2, .slice a3 n3 p3], .bool true]) ?_ rfl ⟨_, _, _, _, _, _, _, _, _, _, _, _, by rw [HY.out], fun _ => HRES.out, hwS⟩
      simp [results, Tryd.results59, go_sem, k0, k1, k2, k3]
theorem meet_r {lo lo' : Nat} {a b M : Bx} {v0 v1 v2 v3 u0 u1 u2 u3 : Value} {w : World} {q : Bool} (h : bmeet a b = M) (hq : bvalid M = q) (ht : Tab w) (hs : All2 (Sps lo w) [v0, v1, v2, v3] a) (hu : All2 (Sps lo' w) [u0, u1, u2, u3] b) (ha : bvalid a = true) (hb : bvalid b = true) :
    Calls Tryd.prog 59 #[.agg #[v0, v1, v2, v3], .agg #[u0, u1, u2, u3]] w fun e w' => ∃ a0 n0 p0 a1 n1 p1 a2 n2 p2 a3 n3 p3, e = .returned (.tuple #[.agg #[.slice a0 n0 p0, .slice a1 n1 p1, .slice a2 n2 p2, .slice a3 n3 p3], .bool q]) ∧ (q = true → All2 (Sps w.heap.size w') [.slice a0 n0 p0, .slice a1 n1 p1, .slice a2 n2 p2, .slice a3 n3 p3] M) ∧ Below w.heap.size w w' := by
  subst h hq
  exact meet_any a b v0 v1 v2 v3 u0 u1 u2 u3 w ht hs hu ha hb
-- MADE3 --
theorem lit4_at (w : World) (a b c d : Value) (ty : TypeId) : SlAt 4 R4.enc (w.alloc (.cells #[a, b, c, d] ty)) (.slice (some ⟨w.heap.size, 0, none⟩) 1 1) [⟨a, b, c, d⟩] := by
  refine ⟨_, 1, rfl, by simp, by simp [maxLen], fun k x hk => ?_⟩
  match k, hk with
  | 0, hk =>
    cases hk
    refine ⟨w.heap.size, 0, rfl, by simp, fun j u hj => ?_⟩
    have := cellsNew w (R4.enc ⟨a, b, c, d⟩) ty j u hj
    rwa [Addr.add_lit] at this
  | k + 1, hk => simp at hk
end Go.Proofs.YtfcbbahlhjdefaaDoor
