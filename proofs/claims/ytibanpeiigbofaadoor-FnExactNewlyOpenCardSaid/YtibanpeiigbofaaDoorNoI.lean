/- Newly open packets: the program's walk. -/
import Derived.Test.YtibanpeiigbofaaDoorFdI
import Derived.Test.YtibanpeiigbofaaDoorPaI
namespace Go.Proofs.YtibanpeiigbofaaDoor
open Go.RowKit
/-- The first k sets are there. -/
def SDm (b : Bx) (S : Nat) (w : World) (k : Nat) : Prop := ∀ j, j < 4 → ∃ v, w.cell? ⟨S, j, none⟩ = some v ∧ ((j < k ∧ Sps (S + 1) w v (b.getD j [])) ∨ (k ≤ j ∧ v = .slice none 0 0))
theorem SDm.below {b : Bx} {S : Nat} {w w' : World} {k : Nat} (h : SDm b S w k) (hS : S < w.heap.size) (hb : Below w.heap.size w w') : SDm b S w' k := fun j hj => by
  obtain ⟨v, h1, h2⟩ := h j hj
  exact ⟨v, (hb.cell (p := ⟨S, j, none⟩) hS).trans h1, h2.imp (fun ⟨g1, g2⟩ => ⟨g1, g2.below hb⟩) id⟩
theorem SDm.step {b : Bx} {S : Nat} {w : World} {k : Nat} {v : Value} (h : SDm b S w k) (hv : Sps (S + 1) w v (b.getD k [])) : SDm b S (w.setCell ⟨S, k, none⟩ v) (k + 1) := fun j hj => by
  have hkp : Kp (S + 1) w (w.setCell ⟨S, k, none⟩ v) := ⟨by simp, fun q q1 _ => Below.heap_setCell _ _ _ _ (by simp only; omega)⟩
  obtain ⟨u, h1, h2⟩ := h j hj
  by_cases e : j = k
  · subst e
    exact ⟨v, World.cell?_setCell_same' _ _ _ (by rw [h1]; rfl), .inl ⟨by omega, hv.keep hkp⟩⟩
  · refine ⟨u, by rw [World.cell?_setCell_other _ _ _ _ (fun e2 => e (Addr.mk.inj e2).2.1.symm)]; exact h1, ?_⟩
    rcases h2 with ⟨g1, g2⟩ | ⟨g1, g2⟩
    · exact .inl ⟨by omega, g2.keep hkp⟩
    · exact .inr ⟨by omega, g2⟩
def Zro4 (S : Nat) (w : World) : Prop := S < w.heap.size ∧ (∀ j, j < 4 → w.cell? ⟨S, j, none⟩ = some (.slice none 0 0)) ∧ ∀ j, w.frozen? ⟨S, j, none⟩ = false
theorem Zro4.below {S : Nat} {w w' : World} (h : Zro4 S w) (hb : Below w.heap.size w w') : Zro4 S w' :=
  ⟨Nat.lt_of_lt_of_le h.1 hb.size, fun j hj => (hb.cell (p := ⟨S, j, none⟩) h.1).trans (h.2.1 j hj), fun j => (hb.frozen (p := ⟨S, j, none⟩) h.1).trans (h.2.2 j)⟩
/-- Four cells of a block. -/
def C4 (S : Nat) (w : World) (v0 v1 v2 v3 : Value) : Prop := S < w.heap.size ∧ ∀ j v, [v0, v1, v2, v3][j]? = some v → w.cell? ⟨S, j, none⟩ = some v
theorem C4.below {S : Nat} {w w' : World} {v0 v1 v2 v3 : Value} (h : C4 S w v0 v1 v2 v3) (hb : Below w.heap.size w w') : C4 S w' v0 v1 v2 v3 :=
  ⟨Nat.lt_of_lt_of_le h.1 hb.size, fun j v hj => (hb.cell (p := ⟨S, j, none⟩) h.1).trans (h.2 j v hj)⟩
theorem bmeet_fits {a b : Bx} (ha : bvalid a = true) (hb : bvalid b = true) (h : ∀ k, k < 4 → ((bmeet a b).getD k []).length ≤ 40) : bvalid (bmeet a b) = true := by
  refine bvalid_iff.2 ⟨bmeet_len (bvalid_iff.1 ha).1 (bvalid_iff.1 hb).1, fun n hn => ?_⟩
  obtain ⟨z, hz, gz⟩ := bmeet_good ha hb hn
  have := h n hn
  rw [getD_get hz] at this ⊢
  rw [svalid_of hn gz]
  exact decide_eq_true this
theorem bmeet_not {a b : Bx} {k : Nat} (hk : k < 4) (h : ¬ ((bmeet a b).getD k []).length ≤ 40) : bvalid (bmeet a b) = false := by
  rw [← Bool.not_eq_true]
  intro hv
  exact h (svalid_len ((bvalid_iff.1 hv).2 k hk))
set_option maxHeartbeats 4000000 in
set_option maxRecDepth 100000 in
theorem meet_any {lo lo' : Nat} (a b : Bx) (v0 v1 v2 v3 u0 u1 u2 u3 : Value) (w : World) (ht : Tab w) (hs : All2 (Sps lo w) [v0, v1, v2, v3] a) (hu : All2 (Sps lo' w) [u0, u1, u2, u3] b) (ha : bvalid a = true) (hb : bvalid b = true) :
    Calls Tryd.prog 122 #[.agg #[v0, v1, v2, v3], .agg #[u0, u1, u2, u3]] w fun e w' => ∃ a0 n0 p0 a1 n1 p1 a2 n2 p2 a3 n3 p3, e = .returned (.tuple #[.agg #[.slice a0 n0 p0, .slice a1 n1 p1, .slice a2 n2 p2, .slice a3 n3 p3], .bool (bvalid (bmeet a b))]) ∧ (bvalid (bmeet a b) = true → All2 (Sps w.heap.size w') [.slice a0 n0 p0, .slice a1 n1 p1, .slice a2 n2 p2, .slice a3 n3 p3] (bmeet a b)) ∧ Below w.heap.size w w' := by
  obtain ⟨x0, y0, z0, x1, y1, z1, x2, y2, z2, x3, y3, z3, rfl, rfl, rfl, rfl⟩ := sl4_form hs
  obtain ⟨X0, Y0, Z0, X1, Y1, Z1, X2, Y2, Z2, X3, Y3, Z3, rfl, rfl, rfl, rfl⟩ := sl4_form hu
  obtain ⟨W, hW⟩ : ∃ W, ((((w.alloc (.cells #[.slice x0 y0 z0, .slice x1 y1 z1, .slice x2 y2 z2, .slice x3 y3 z3] 132)).alloc (.cells #[.slice X0 Y0 Z0, .slice X1 Y1 Z1, .slice X2 Y2 Z2, .slice X3 Y3 Z3] 132)).alloc (.cells #[.slice none 0 0, .slice none 0 0, .slice none 0 0, .slice none 0 0] 132)).alloc (.cells #[.slice none 0 0, .slice none 0 0, .slice none 0 0, .slice none 0 0] 132)) = W := ⟨_, rfl⟩
  have hal : Below w.heap.size w W := by rw [← hW]; (repeat' (first | with_reducible exact Below.refl _ _ | with_reducible assumption | with_reducible refine Below.setCell ?_ ?_ _ | with_reducible refine Below.alloc ?_ ?_ _ | with_reducible refine Below.drew ?_ | with_reducible refine belDrewN ?_ _ | with_reducible refine Below.trans ?_ (Below.mono (by assumption) ?_) | omega | (simp; omega) | (simp; done)))
  have qz : W.heap.size = w.heap.size + 1 + 1 + 1 + 1 := by rw [← hW]; simp
  have HA4 := alloc4_cells w #[.slice x0 y0 z0, .slice x1 y1 z1, .slice x2 y2 z2, .slice x3 y3 z3] #[.slice X0 Y0 Z0, .slice X1 Y1 Z1, .slice X2 Y2 Z2, .slice X3 Y3 Z3] #[.slice none 0 0, .slice none 0 0, .slice none 0 0, .slice none 0 0] #[.slice none 0 0, .slice none 0 0, .slice none 0 0, .slice none 0 0] 132 132 132 132
  rw [hW] at HA4
  have hl1 : w.heap.size < W.heap.size := by omega
  have hl2 : w.heap.size + 1 < W.heap.size := by omega
  have HC1 := Lib.hid (show ∀ w', Below (w.heap.size + 1 + 1) W w' → ∀ j v, [Value.slice x0 y0 z0, .slice x1 y1 z1, .slice x2 y2 z2, .slice x3 y3 z3][j]? = some v → w'.cell? ⟨w.heap.size, j, none⟩ = some v from fun w' hb j v hj => by
    rw [hb.cell (p := ⟨w.heap.size, j, none⟩) (by simp only; omega), HA4.1 j]
    simpa using hj)
  have HC2 := Lib.hid (show ∀ w', Below (w.heap.size + 1 + 1) W w' → ∀ j v, [Value.slice X0 Y0 Z0, .slice X1 Y1 Z1, .slice X2 Y2 Z2, .slice X3 Y3 Z3][j]? = some v → w'.cell? ⟨w.heap.size + 1, j, none⟩ = some v from fun w' hb j v hj => by
    rw [hb.cell (p := ⟨w.heap.size + 1, j, none⟩) (by simp only; omega), HA4.2.1 j]
    simpa using hj)
  have HZ0 := Lib.hid (show Zro4 (w.heap.size + 1 + 1) W from ⟨by omega, fun j hj => by
    rw [(HA4.2.2.1 j).1]
    rcases (by omega : j = 0 ∨ j = 1 ∨ j = 2 ∨ j = 3) with rfl | rfl | rfl | rfl <;> rfl, fun j => (HA4.2.2.1 j).2⟩)
  have HD0 := Lib.hid (show SDm (bmeet a b) (w.heap.size + 1 + 1 + 1) W 0 from fun j hj => ⟨.slice none 0 0, by
    rw [(HA4.2.2.2 j).1]
    rcases (by omega : j = 0 ∨ j = 1 ∨ j = 2 ∨ j = 3) with rfl | rfl | rfl | rfl <;> rfl, .inr ⟨Nat.zero_le _, rfl⟩⟩)
  have HF0 := Lib.hid (show ∀ j, W.frozen? ⟨w.heap.size + 1 + 1 + 1, j, none⟩ = false from fun j => (HA4.2.2.2 j).2)
  have HS := Lib.hid hs
  have HU := Lib.hid hu
  have HA := Lib.hid ha
  have HB := Lib.hid hb
  have HT := Lib.hid ht
  clear HA4 hs hu ha hb ht
  go_enter Tryd.func122, Tryd.ntmps122
  go_wp2_with fail
  go_loopw [7, 8, 9, 10] (fun _ _ _ i wr => ∃ k : Nat, k ≤ 4 ∧ i = .int .i64 k ∧ Hid (∀ j, j < k → ((bmeet a b).getD j []).length ≤ 40) ∧ Hid (SDm (bmeet a b) (w.heap.size + 1 + 1 + 1) wr k) ∧ Hid (∀ j, wr.frozen? ⟨w.heap.size + 1 + 1 + 1, j, none⟩ = false) ∧ Below (w.heap.size + 1 + 1 + 1) W wr) (fun _ _ _ i _ => 4 - (intOf i).toNat)
  case atStart => exact ⟨0, by omega, rfl, Lib.hid (fun j h => by omega), HD0, HF0, Below.refl _ _⟩
  case round =>
    clear HD0 HF0 hW
    obtain ⟨k, hk, rfl, HK, HD, HF, hbr⟩ := hrel
    have hzr := hbr.size
    have hbr2 : Below (w.heap.size + 1 + 1) W wr := hbr.mono (by omega)
    have hwr := hal.trans (hbr.mono (by omega))
    have HZ := Lib.hid (show Zro4 (w.heap.size + 1 + 1) wr from ⟨by omega, fun j hj => (hbr.cell (p := ⟨w.heap.size + 1 + 1, j, none⟩) (by simp only; omega)).trans (HZ0.out.2.1 j hj), fun j => (hbr.frozen (p := ⟨w.heap.size + 1 + 1, j, none⟩) (by simp only; omega)).trans (HZ0.out.2.2 j)⟩)
    by_cases hlt : k < 4
    · have i1 : (k : Int) < 4 := by omega
      have i2 : (0 : Int) ≤ (k : Int) := by omega
      obtain ⟨x, hx, vx⟩ := bvalid_get HA.out hlt
      obtain ⟨y, hy, vy⟩ := bvalid_get HB.out hlt
      obtain ⟨sv, hsv, hss⟩ := HS.out.left hx
      obtain ⟨tv, htv, htt⟩ := HU.out.left hy
      have d1 := HC1.out wr hbr2 k sv hsv
      have d2 := HC2.out wr hbr2 k tv htv
      have hz1 : w.heap.size < wr.heap.size := by omega
      have hz2 : w.heap.size + 1 < wr.heap.size := by omega
      obtain ⟨M, hM⟩ : ∃ M, smeet x y = M := ⟨_, rfl⟩
      obtain ⟨r2, hr2⟩ : ∃ r, decide (M.length ≤ 40) = r := ⟨_, rfl⟩
      have HME := Lib.hid hM
      have HR2 := Lib.hid hr2
      have HMG := Lib.hid (show (bmeet a b).getD k [] = M by rw [getD_get (bmeet_get hx hy), hM])
      obtain ⟨sa, sn, sc, rfl⟩ : ∃ a n c, sv = .slice a n c := by obtain ⟨a, c, h, -, -⟩ := hss.form; exact ⟨_, _, _, h⟩
      obtain ⟨ta, tn, tc, rfl⟩ : ∃ a n c, tv = .slice a n c := by obtain ⟨a, c, h, -, -⟩ := htt.form; exact ⟨_, _, _, h⟩
      have HSS := Lib.hid (hss.below hwr)
      have HTT := Lib.hid (htt.below hwr)
      have GX := Lib.hid (svalid_good vx)
      have GY := Lib.hid (svalid_good vy)
      have HTR := Lib.hid (HT.out.below hwr)
      obtain ⟨t0, t1⟩ := top_le hlt
      clear hM hr2 hss htt hsv htv hx hy vx vy
      go_wp2_with fail
      (refine wp_region_bel (W := wr) [BIs (.int .i64 (k : Int)), BIs (.pointer (some ⟨w.heap.size, k, none⟩)), BIs (.slice sa sn sc), BIs (.int .i64 (k : Int)), BIs (.pointer (some ⟨w.heap.size + 1, k, none⟩)), BIs (.slice ta tn tc), BIs (.int .i64 (k : Int)), (BIs (.int .i64 (top k))), (fun w v => ∃ q, v = .tuple #[q, .bool r2] ∧ OwnSp wr.heap.size w q (slim M)), (fun w v => ∃ q, v = .tuple #[q, .bool r2] ∧ OwnSp wr.heap.size w q (slim M)), (fun w v => OwnSp wr.heap.size w v (slim M)), BIs (.bool r2), (fun w v => OwnSp wr.heap.size w v (slim M)), BIs (.bool r2)] (by kernel_rfl) (fun u => by simp only [frU, Act.put, List.setIfInBounds_toArray, List.set_cons_succ, List.set_cons_zero, Nat.zero_add, Nat.reduceAdd]; exact rfl) (by kernel_rfl) ⟨bst_is _, bst_is _, bst_is _, bst_is _, bst_is _, bst_is _, bst_is _, (bst_is _), (fun _ _ _ hb ⟨q, h1, h2⟩ => ⟨q, h1, OwnSl.kept h2 hb⟩), (fun _ _ _ hb ⟨q, h1, h2⟩ => ⟨q, h1, OwnSl.kept h2 hb⟩), (fun _ _ _ hb h => OwnSl.kept h hb), bst_is _, (fun _ _ _ hb h => OwnSl.kept h hb), bst_is _, trivial⟩ ?_ ?_; exact ⟨stB rfl (fun u w3 hC hd Q K hK => by (go_step; exact hK _ _ rfl (Below.refl _ _) rfl)), stB rfl (fun u w3 hC hd Q K hK => by (have hu := bis (w := w3) (hd 0 rfl); rw [hu] at hK ⊢; clear hu; go_step; exact hK _ _ rfl (Below.refl _ _) rfl)), stB rfl (fun u w3 hC hd Q K hK => by (have hu := bis (w := w3) (hd 1 rfl); rw [hu] at hK ⊢; clear hu; have z1 := (hC.cell (p := ⟨w.heap.size, k, none⟩) hz1).trans d1; go_step; exact hK _ _ rfl (Below.refl _ _) rfl)), stB rfl (fun u w3 hC hd Q K hK => by (go_step; exact hK _ _ rfl (Below.refl _ _) rfl)), stB rfl (fun u w3 hC hd Q K hK => by (have hu := bis (w := w3) (hd 3 rfl); rw [hu] at hK ⊢; clear hu; go_step; exact hK _ _ rfl (Below.refl _ _) rfl)), stB rfl (fun u w3 hC hd Q K hK => by (have hu := bis (w := w3) (hd 4 rfl); rw [hu] at hK ⊢; clear hu; have z1 := (hC.cell (p := ⟨w.heap.size + 1, k, none⟩) hz2).trans d2; go_step; exact hK _ _ rfl (Below.refl _ _) rfl)), stB rfl (fun u w3 hC hd Q K hK => by (go_step; exact hK _ _ rfl (Below.refl _ _) rfl)), stB rfl (fun u w3 hC hd Q K hK => by (have hu := bis (w := w3) (hd 6 rfl); rw [hu] at hK ⊢; clear hu; go_step; refine (FieldTop_any k hlt _ (HTR.out.below hC)).mono ?_; rintro e w4 ⟨rfl, rfl⟩; exact hK _ _ rfl (Below.refl _ _) rfl)), stB rfl (fun u w3 hC hd Q K hK => by (have hu := bis (w := w3) (hd 2 rfl); rw [hu] at hK ⊢; clear hu; have hu := bis (w := w3) (hd 5 rfl); rw [hu] at hK ⊢; clear hu; have hu := bis (w := w3) (hd 7 rfl); rw [hu] at hK ⊢; clear hu; go_step; refine (meetSpans_r HME.out HR2.out (HSS.out.below hC) (HTT.out.below hC) GX.out GY.out t0 t1).mono ?_; rintro e w4 ⟨z4, rfl, ho4, hb4⟩; exact hK _ _ rfl hb4 ⟨z4, rfl, OwnSl.mono ho4 hC.size⟩)), stB rfl (fun u w3 hC hd Q K hK => by (obtain ⟨y, hu, ho⟩ := hd 8 rfl; rw [hu] at hK ⊢; clear hu; go_step; exact hK _ _ rfl (Below.refl _ _) ⟨y, rfl, ho⟩)), stB rfl (fun u w3 hC hd Q K hK => by (obtain ⟨y, hu, ho⟩ := hd 9 rfl; rw [hu] at hK ⊢; clear hu; go_step; exact hK _ _ rfl (Below.refl _ _) ho)), stB rfl (fun u w3 hC hd Q K hK => by (obtain ⟨y, hu, -⟩ := hd 9 rfl; rw [hu] at hK ⊢; clear hu; go_step; exact hK _ _ rfl (Below.refl _ _) rfl)), stB rfl (fun u w3 hC hd Q K hK => by (have ho1 := hd 10 rfl; generalize u 10 = v1 at *; go_step; exact hK _ _ rfl (Below.refl _ _) ho1)), stB rfl (fun u w3 hC hd Q K hK => by (have hu := bis (w := w3) (hd 11 rfl); rw [hu] at hK ⊢; clear hu; go_step; exact hK _ _ rfl (Below.refl _ _) rfl)), trivial⟩); intro u w9 hb_w9 hF; rw [bis (w := w9) (hF 0 (by decide))]; rw [bis (w := w9) (hF 1 (by decide))]; rw [bis (w := w9) (hF 2 (by decide))]; rw [bis (w := w9) (hF 3 (by decide))]; rw [bis (w := w9) (hF 4 (by decide))]; rw [bis (w := w9) (hF 5 (by decide))]; rw [bis (w := w9) (hF 6 (by decide))]; generalize u 7 = vx7 at *; generalize u 8 = vx8 at *; generalize u 9 = vx9 at *; generalize u 10 = vx10 at *; rw [bis (w := w9) (hF 11 (by decide))]; have hz0 := hF 12 (by decide); generalize u 12 = z2 at *; rw [bis (w := w9) (hF 13 (by decide))]; clear hF
      replace hz0 : OwnSp wr.heap.size w9 z2 (slim M) := hz0
      obtain ⟨zb, zd, rfl, -, -⟩ := (OwnSp.sps hz0).form
      have hz9 := hb_w9.size
      have hB9 : Below (w.heap.size + 1 + 1 + 1) W w9 := hbr.trans (hb_w9.mono (by omega))
      have hw9 := hal.trans (hB9.mono (by omega))
      have HD9 := Lib.hid (HD.out.below (by omega) hb_w9)
      have HF9 := Lib.hid (fun j => (hb_w9.frozen (p := ⟨w.heap.size + 1 + 1 + 1, j, none⟩) (by simp only; omega)).trans (HF.out j))
      have HO9 := Lib.hid hz0
      have HZ9 := Lib.hid (HZ.out.below hb_w9)
      clear hz0 d1 d2 HD HF HZ hb_w9
      cases r2
      · have HNO := Lib.hid (bmeet_not (a := a) (b := b) hlt (by rw [HMG.out]; exact of_decide_eq_false HR2.out))
        obtain ⟨-, q2, q3⟩ := HZ9.out
        have k0 := q2 0 (by omega)
        have k1 := q2 1 (by omega)
        have k2 := q2 2 (by omega)
        have k3 := q2 3 (by omega)
        have g0 := q3 0
        have g1 := q3 1
        have g2 := q3 2
        have g3 := q3 3
        have hB : w.heap.size ≤ w.heap.size + 1 + 1 := by omega
        have hwS := (((hw9.setCell (p := ⟨w.heap.size + 1 + 1, 0, none⟩) hB (.slice none 0 0)).setCell (p := ⟨w.heap.size + 1 + 1, 1, none⟩) hB (.slice none 0 0)).setCell (p := ⟨w.heap.size + 1 + 1, 2, none⟩) hB (.slice none 0 0)).setCell (p := ⟨w.heap.size + 1 + 1, 3, none⟩) hB (.slice none 0 0)
        clear q2 q3
        go_wp2
        refine bodyPost_ret (v := .tuple #[.agg #[.slice none 0 0, .slice none 0 0, .slice none 0 0, .slice none 0 0], .bool false]) ?_ rfl ⟨_, _, _, _, _, _, _, _, _, _, _, _, by rw [HNO.out], fun h => (by rw [HNO.out] at h; cases h), hwS⟩
        simp [results, Tryd.results122, go_sem, k0, k1, k2, k3]
      · have HFT := Lib.hid (of_decide_eq_true HR2.out)
        have HSM := Lib.hid (show slim M = M by unfold slim; rw [if_pos HFT.out])
        obtain ⟨u, hu, -⟩ := HD9.out k hlt
        have hfk := HF9.out k
        have HK2 := Lib.hid (show ∀ j, j < k + 1 → ((bmeet a b).getD j []).length ≤ 40 from fun j hj => by
          rcases Nat.lt_or_ge j k with h1 | h1
          · exact HK.out j h1
          · rw [show j = k by omega, HMG.out]; exact HFT.out)
        have HDS := Lib.hid (HD9.out.step (v := .slice zb (slim M).length zd) (by rw [HMG.out]; exact (congrArg (fun L => Sps (w.heap.size + 1 + 1 + 1 + 1) w9 (.slice zb (slim M).length zd) L) HSM.out).mp (OwnSp.sps (OwnSl.mono HO9.out (show w.heap.size + 1 + 1 + 1 + 1 ≤ wr.heap.size by omega)))))
        have hbS := hB9.setCell (p := ⟨w.heap.size + 1 + 1 + 1, k, none⟩) (Nat.le_refl _) (.slice zb (slim M).length zd)
        have HFS := Lib.hid (show ∀ j, (w9.setCell ⟨w.heap.size + 1 + 1 + 1, k, none⟩ (.slice zb (slim M).length zd)).frozen? ⟨w.heap.size + 1 + 1 + 1, j, none⟩ = false from fun j => by rw [World.frozen?_setCell]; exact HF9.out j)
        go_wp2
        go_roundw
        case rel => exact ⟨k + 1, by omega, by go_num, HK2, HDS, HFS, hbS⟩
        case measure => simp [intOf]; omega
    · have hk4 : k = 4 := by omega
      subst hk4
      have HY := Lib.hid (bmeet_fits HA.out HB.out HK.out)
      obtain ⟨v0, c0, h0⟩ := HD.out 0 (by omega)
      obtain ⟨v1, c1, h1⟩ := HD.out 1 (by omega)
      obtain ⟨v2, c2, h2⟩ := HD.out 2 (by omega)
      obtain ⟨v3, c3, h3⟩ := HD.out 3 (by omega)
      replace h0 := h0.elim (fun h => h.2) (fun h => absurd h.1 (by omega))
      replace h1 := h1.elim (fun h => h.2) (fun h => absurd h.1 (by omega))
      replace h2 := h2.elim (fun h => h.2) (fun h => absurd h.1 (by omega))
      replace h3 := h3.elim (fun h => h.2) (fun h => absurd h.1 (by omega))
      obtain ⟨a0, n0, p0, rfl⟩ : ∃ a n c, v0 = .slice a n c := by obtain ⟨a, c, h, -, -⟩ := h0.form; exact ⟨_, _, _, h⟩
      obtain ⟨a1, n1, p1, rfl⟩ : ∃ a n c, v1 = .slice a n c := by obtain ⟨a, c, h, -, -⟩ := h1.form; exact ⟨_, _, _, h⟩
      obtain ⟨a2, n2, p2, rfl⟩ : ∃ a n c, v2 = .slice a n c := by obtain ⟨a, c, h, -, -⟩ := h2.form; exact ⟨_, _, _, h⟩
      obtain ⟨a3, n3, p3, rfl⟩ : ∃ a n c, v3 = .slice a n c := by obtain ⟨a, c, h, -, -⟩ := h3.form; exact ⟨_, _, _, h⟩
      obtain ⟨-, q2, q3⟩ := HZ.out
      have k0 := q2 0 (by omega)
      have k1 := q2 1 (by omega)
      have k2 := q2 2 (by omega)
      have k3 := q2 3 (by omega)
      have g0 := q3 0
      have g1 := q3 1
      have g2 := q3 2
      have g3 := q3 3
      have hB : w.heap.size ≤ w.heap.size + 1 + 1 := by omega
      have hwS := (((hwr.setCell (p := ⟨w.heap.size + 1 + 1, 0, none⟩) hB (.slice a0 n0 p0)).setCell (p := ⟨w.heap.size + 1 + 1, 1, none⟩) hB (.slice a1 n1 p1)).setCell (p := ⟨w.heap.size + 1 + 1, 2, none⟩) hB (.slice a2 n2 p2)).setCell (p := ⟨w.heap.size + 1 + 1, 3, none⟩) hB (.slice a3 n3 p3)
      have hkp : Kp (w.heap.size + 1 + 1 + 1 + 1) wr ((((wr.setCell ⟨w.heap.size + 1 + 1, 0, none⟩ (.slice a0 n0 p0)).setCell ⟨w.heap.size + 1 + 1, 1, none⟩ (.slice a1 n1 p1)).setCell ⟨w.heap.size + 1 + 1, 2, none⟩ (.slice a2 n2 p2)).setCell ⟨w.heap.size + 1 + 1, 3, none⟩ (.slice a3 n3 p3)) := ⟨by simp, fun q q1 _ => by
        rw [Below.heap_setCell _ _ _ _ (by simp only; omega), Below.heap_setCell _ _ _ _ (by simp only; omega), Below.heap_setCell _ _ _ _ (by simp only; omega), Below.heap_setCell _ _ _ _ (by simp only; omega)]⟩
      have hM4 := bmeet_len (bvalid_iff.1 HA.out).1 (bvalid_iff.1 HB.out).1
      have HRES := Lib.hid (show All2 (Sps w.heap.size ((((wr.setCell ⟨w.heap.size + 1 + 1, 0, none⟩ (.slice a0 n0 p0)).setCell ⟨w.heap.size + 1 + 1, 1, none⟩ (.slice a1 n1 p1)).setCell ⟨w.heap.size + 1 + 1, 2, none⟩ (.slice a2 n2 p2)).setCell ⟨w.heap.size + 1 + 1, 3, none⟩ (.slice a3 n3 p3))) [.slice a0 n0 p0, .slice a1 n1 p1, .slice a2 n2 p2, .slice a3 n3 p3] (bmeet a b) from ⟨by rw [hM4]; rfl, fun j x y hx hy => by
        have hy' := getD_get (d := []) hy
        match j, hx with
        | 0, hx => cases hx; rw [← hy']; exact (h0.keep hkp).mono (by omega)
        | 1, hx => cases hx; rw [← hy']; exact (h1.keep hkp).mono (by omega)
        | 2, hx => cases hx; rw [← hy']; exact (h2.keep hkp).mono (by omega)
        | 3, hx => cases hx; rw [← hy']; exact (h3.keep hkp).mono (by omega)
        | j + 4, hx => simp at hx⟩)
      have hne2 : ∀ p q : Nat, (⟨w.heap.size + 1 + 1, p, none⟩ : Addr) ≠ ⟨w.heap.size + 1 + 1 + 1, q, none⟩ := fun p q e => by have := (Addr.mk.inj e).1; omega
      clear q2 q3 h0 h1 h2 h3 hkp
      go_wp2
      refine bodyPost_ret (v := .tuple #[.agg #[.slice a0 n0 p0, .slice a1 n1 p1, .slice a2 n2 p2, .slice a3 n3 p3], .bool true]) ?_ rfl ⟨_, _, _, _, _, _, _, _, _, _, _, _, by rw [HY.out], fun _ => HRES.out, hwS⟩
      simp [results, Tryd.results122, go_sem, k0, k1, k2, k3]
theorem meet_r {lo lo' : Nat} {a b M : Bx} {v0 v1 v2 v3 u0 u1 u2 u3 : Value} {w : World} {q : Bool} (h : bmeet a b = M) (hq : bvalid M = q) (ht : Tab w) (hs : All2 (Sps lo w) [v0, v1, v2, v3] a) (hu : All2 (Sps lo' w) [u0, u1, u2, u3] b) (ha : bvalid a = true) (hb : bvalid b = true) :
    Calls Tryd.prog 122 #[.agg #[v0, v1, v2, v3], .agg #[u0, u1, u2, u3]] w fun e w' => ∃ a0 n0 p0 a1 n1 p1 a2 n2 p2 a3 n3 p3, e = .returned (.tuple #[.agg #[.slice a0 n0 p0, .slice a1 n1 p1, .slice a2 n2 p2, .slice a3 n3 p3], .bool q]) ∧ (q = true → All2 (Sps w.heap.size w') [.slice a0 n0 p0, .slice a1 n1 p1, .slice a2 n2 p2, .slice a3 n3 p3] M) ∧ Below w.heap.size w w' := by
  subst h hq
  exact meet_any a b v0 v1 v2 v3 u0 u1 u2 u3 w ht hs hu ha hb
-- MADE3 --
/-- The common packets of one box with those of a list. -/
def brow (f : Bx) (B : List Bx) : List Bx := (B.map (bmeet f)).filter (fun m => !bempty m)
theorem bopen_append (A A' B : List Bx) : bopen (A ++ A') B = bopen A B ++ bopen A' B := by unfold bopen; rw [List.flatMap_append]
theorem bopen_succ {A B : List Bx} {k : Nat} {f : Bx} (h : A[k]? = some f) : bopen (A.take (k + 1)) B = bopen (A.take k) B ++ brow f B := by
  rw [List.take_add_one, h, Option.toList_some, bopen_append]
  unfold bopen brow
  simp
theorem brow_append (f : Bx) (B B' : List Bx) : brow f (B ++ B') = brow f B ++ brow f B' := by unfold brow; rw [List.map_append, List.filter_append]
theorem brow_succ {f g : Bx} {B : List Bx} {j : Nat} (h : B[j]? = some g) : brow f (B.take (j + 1)) = brow f (B.take j) ++ (if bempty (bmeet f g) then [] else [bmeet f g]) := by
  rw [List.take_add_one, h, Option.toList_some, brow_append]
  congr 1
  unfold brow
  cases hb : bempty (bmeet f g) <;> simp [hb]
theorem bopen_pre {A B : List Bx} {k j : Nat} {f : Bx} (h : A[k]? = some f) : ∃ R, bopen A B = (bopen (A.take k) B ++ brow f (B.take j)) ++ R := by
  refine ⟨brow f (B.drop j) ++ bopen (A.drop (k + 1)) B, ?_⟩
  have hA : bopen A B = bopen (A.take (k + 1)) B ++ bopen (A.drop (k + 1)) B := by rw [← bopen_append, List.take_append_drop]
  have hB : brow f B = brow f (B.take j) ++ brow f (B.drop j) := by rw [← brow_append, List.take_append_drop]
  rw [hA, bopen_succ h, hB]
  simp only [List.append_assoc]
theorem nopenO_bad {fs gs x y : List Ft} {r c : Bool} (hx : fparts fs r = some x) (hy : fparts gs c = some y) (h : rvalid (bopen (psel x false) (psel y true)) = false) : nopenO fs r gs c = none := by
  unfold nopenO
  rw [hx, hy]
  simp [h]
theorem nopenO_ok {fs gs x y : List Ft} {r c : Bool} (hx : fparts fs r = some x) (hy : fparts gs c = some y) (h : rvalid (bopen (psel x false) (psel y true)) = true) : nopenO fs r gs c = some (bopen (psel x false) (psel y true)) := by
  unfold nopenO
  rw [hx, hy]
  simp [h]
theorem nopenO_no {fs gs : List Ft} {r c : Bool} (h : fparts fs r = none ∨ fparts gs c = none) : nopenO fs r gs c = none := by
  unfold nopenO
  rcases h with h | h
  · rw [h]
  · rw [h]; cases fparts fs r <;> rfl
theorem rvalid_mem {L : List Bx} {z : Bx} (h : z ∈ L) (hz : bvalid z = false) : rvalid L = false := by
  rw [← Bool.not_eq_true]
  intro hv
  have := (rvalid_all hv).2 z h
  rw [hz] at this
  cases this
theorem rvalid_len {L : List Bx} (h : 400 < L.length) : rvalid L = false := by
  rw [← Bool.not_eq_true]
  intro hv
  have := (rvalid_all hv).1
  omega
theorem lit4_at (w : World) (a b c d : Value) (ty : TypeId) : SlAt 4 R4.enc (w.alloc (.cells #[a, b, c, d] ty)) (.slice (some ⟨w.heap.size, 0, none⟩) 1 1) [⟨a, b, c, d⟩] := by
  refine ⟨_, 1, rfl, by simp, by simp [maxLen], fun k x hk => ?_⟩
  match k, hk with
  | 0, hk =>
    cases hk
    refine ⟨w.heap.size, 0, rfl, by simp, fun j u hj => ?_⟩
    have := cellsNew w (R4.enc ⟨a, b, c, d⟩) ty j u hj
    rwa [Addr.add_lit] at this
  | k + 1, hk => simp at hk
set_option maxHeartbeats 4000000 in
set_option maxRecDepth 100000 in
theorem openedBy_any {lo lo' : Nat} (fs gs : List Ft) (r c : Bool) (v u : Value) (w : World) (ht : Tab w) (hs : Ifs lo w v fs) (hu : Ifs lo' w u gs) (hv : fvalid fs = true) (hg : fvalid gs = true) :
    Calls Tryd.prog 91 #[v, .bool r, u, .bool c] w fun e w' => ∃ za zn zc, e = .returned (.tuple #[.slice za zn zc, .bool (nopenO fs r gs c).isSome]) ∧ (∀ l, nopenO fs r gs c = some l → Iss 0 w' (.slice za zn zc) l) ∧ Below w.heap.size w w' := by
  obtain ⟨Oa, hOa⟩ : ∃ O, parts fs r = O := ⟨_, rfl⟩
  obtain ⟨Ob, hOb⟩ : ∃ O, parts gs c = O := ⟨_, rfl⟩
  have HOA := Lib.hid hOa
  have HOB := Lib.hid hOb
  have HVA := Lib.hid hv
  have HVB := Lib.hid hg
  have HFA := Lib.hid ((fparts_yes (r := r) hv).trans hOa)
  have HFB := Lib.hid ((fparts_yes (r := c) hg).trans hOb)
  obtain ⟨qa, hqa⟩ : ∃ q, Oa.isSome = q := ⟨_, rfl⟩
  obtain ⟨qb, hqb⟩ : ∃ q, Ob.isSome = q := ⟨_, rfl⟩
  have HQA := Lib.hid hqa
  have HQB := Lib.hid hqb
  have HS := Lib.hid hs
  have HU := Lib.hid hu
  have HT := Lib.hid ht
  clear hOa hOb hv hg hqa hqb hs hu ht
  go_enter Tryd.func91, Tryd.ntmps91
  go_wp2_with fail
  refine (partsOf_q HOA.out HQA.out HT.out HS.out HVA.out).mono ?_
  rintro e w1 ⟨ea, la, ka, da, ma, ja, rfl, ho1, hb1⟩
  obtain ⟨W1, hW1⟩ : ∃ W, w1.alloc (.cells #[.slice ea la ka, .slice da ma ja] 101) = W := ⟨_, rfl⟩
  have hal1 : Below w1.heap.size w1 W1 := by rw [← hW1]; exact (Below.refl _ _).alloc (Nat.le_refl _) _
  have HC1 := Lib.hid (show C2 W1 w1.heap.size (.slice ea la ka) (.slice da ma ja) by rw [← hW1]; exact C2.new _ _ _ _)
  have hwW1 := hb1.trans (hal1.mono hb1.size)
  have HP1 := Lib.hid (IssB.below ho1 hal1)
  clear ho1 hb1 hal1
  go_wp2_with fail
  refine (partsOf_q HOB.out HQB.out (HT.out.below hwW1) (HU.out.below hwW1) HVB.out).mono ?_
  rintro e w2 ⟨eb, lb, kb, db, mb, jb, rfl, ho2, hb2⟩
  obtain ⟨W2, hW2⟩ : ∃ W, w2.alloc (.cells #[.slice eb lb kb, .slice db mb jb] 101) = W := ⟨_, rfl⟩
  have hal2 : Below w2.heap.size w2 W2 := by rw [← hW2]; exact (Below.refl _ _).alloc (Nat.le_refl _) _
  have HC2 := Lib.hid (show C2 W2 w2.heap.size (.slice eb lb kb) (.slice db mb jb) by rw [← hW2]; exact C2.new _ _ _ _)
  have hb22 := hb2.trans (hal2.mono hb2.size)
  have hwW2 := hwW1.trans (hb22.mono hwW1.size)
  replace HP1 := Lib.hid (IssB.below HP1.out hb22)
  have HP2 := Lib.hid (IssB.below ho2 hal2)
  replace HC1 := Lib.hid (HC1.out.below hb22)
  have HTW := Lib.hid (HT.out.below hwW2)
  clear ho2 hb2 hal2 hb22 hwW1
  by_cases hqq : qa = true ∧ qb = true
  · obtain ⟨rfl, rfl⟩ := hqq
    obtain ⟨x, rfl⟩ : ∃ x, Oa = some x := Option.isSome_iff_exists.1 HQA.out
    obtain ⟨y, rfl⟩ : ∃ y, Ob = some y := Option.isSome_iff_exists.1 HQB.out
    have HX := Lib.hid (HP1.out x rfl).2
    have HY := Lib.hid (HP2.out y rfl).1
    have HAV := Lib.hid (psel_bv HFA.out false)
    have HBV := Lib.hid (psel_bv HFB.out true)
    have HBAD := Lib.hid (fun h => nopenO_bad HFA.out HFB.out h)
    have HOK := Lib.hid (fun h => nopenO_ok HFA.out HFB.out h)
    obtain ⟨A, hA⟩ : ∃ A, psel x false = A := ⟨_, rfl⟩
    obtain ⟨B, hB⟩ : ∃ B, psel y true = B := ⟨_, rfl⟩
    rw [hA] at HX HAV HBAD HOK
    rw [hB] at HY HBV HBAD HOK
    obtain ⟨-, g0, g1⟩ := HC1.out
    obtain ⟨hz2, g2, g3⟩ := HC2.out
    have HHG := Lib.hid g2
    obtain ⟨n, hn⟩ : ∃ n, A.length = n := ⟨_, rfl⟩
    obtain ⟨m, hm⟩ : ∃ m, B.length = m := ⟨_, rfl⟩
    have HN := Lib.hid hn
    have HM := Lib.hid hm
    obtain ⟨xa, xc, hxv, hxl, hxm⟩ := HX.out.form
    obtain ⟨rfl, rfl, rfl⟩ := Value.slice.inj hxv
    obtain ⟨ya, yc, hyv, hyl, hym⟩ := HY.out.form
    obtain ⟨rfl, rfl, rfl⟩ := Value.slice.inj hyv
    rw [hn] at HX hxl g1 hW1 ⊢
    rw [hm] at HY hyl g2 HHG hW2 ⊢
    unfold maxLen at hxm hym
    have hlt2 : w2.heap.size < W2.heap.size := HC2.out.1
    have HO0 := Lib.hid (show NX (fun _ => False) W2.heap.size W2 (.slice none 0 0) [] from ⟨[], World.ownsRow_nil _ _ _ _, All2.nil⟩)
    clear hA hB hn hm HC1 HC2 hxv hyv HP1 HP2
    go_wp2_with fail
    go_loopw [14, 42] (fun o i wr => ∃ k : Nat, k ≤ n ∧ i = .int .i64 k ∧ Hid (NX (fun _ => False) W2.heap.size wr o (bopen (A.take k) B)) ∧ Hid ((bopen (A.take k) B).length ≤ 400 ∧ ∀ z ∈ bopen (A.take k) B, bvalid z = true) ∧ Below W2.heap.size W2 wr) (fun _ i _ => n - (intOf i).toNat)
    case atStart => exact ⟨0, by omega, rfl, HO0, Lib.hid ⟨by simp [bopen], fun z hz => by simp [bopen] at hz⟩, Below.refl _ _⟩
    case round =>
      clear HO0 hW1 hW2
      obtain ⟨k, hk, rfl, HO, HG, hbr⟩ := hrel
      generalize wr = wo at *
      have hzr := hbr.size
      by_cases hkt : k < n
      · have j1 : (k : Int) < (n : Int) := by omega
        have j2 : (0 : Int) ≤ (k : Int) := by omega
        obtain ⟨f, hf⟩ : ∃ f, A[k]? = some f := ⟨_, List.getElem?_eq_getElem (by rw [HN.out]; exact hkt)⟩
        obtain ⟨b, o, v0, v1, v2, v3, rfl, hbl, c0, c1, c2, c3, hss⟩ := HX.out.at hf
        obtain ⟨a0, n0, p0, a1, n1, p1, a2, n2, p2, a3, n3, p3, rfl, rfl, rfl, rfl⟩ := sl4_form hss
        replace c0 := (hbr.cell (p := ⟨b, o + k * 4, none⟩) hbl).trans c0
        replace c1 := (hbr.cell (p := ⟨b, o + k * 4 + 1, none⟩) hbl).trans c1
        replace c2 := (hbr.cell (p := ⟨b, o + k * 4 + 2, none⟩) hbl).trans c2
        replace c3 := (hbr.cell (p := ⟨b, o + k * 4 + 3, none⟩) hbl).trans c3
        have HF := Lib.hid hf
        have HFV := Lib.hid (HAV.out f (List.mem_of_getElem? hf))
        obtain ⟨Wa, hWa⟩ : ∃ Wa, wo.alloc (.cells #[.slice a0 n0 p0, .slice a1 n1 p1, .slice a2 n2 p2, .slice a3 n3 p3] 132) = Wa := ⟨_, rfl⟩
        have hala : Below wo.heap.size wo Wa := by rw [← hWa]; exact (Below.refl _ _).alloc (Nat.le_refl _) _
        have HCA := Lib.hid (show C4 wo.heap.size Wa (.slice a0 n0 p0) (.slice a1 n1 p1) (.slice a2 n2 p2) (.slice a3 n3 p3) from ⟨by rw [← hWa]; simp, fun j v hj => by
          rw [← hWa]
          match j, hj with
          | 0, hj => cases hj; simp
          | 1, hj => cases hj; simp
          | 2, hj => cases hj; simp
          | 3, hj => cases hj; simp
          | j + 4, hj => simp at hj⟩)
        have hbA := hbr.trans (hala.mono hzr)
        have HSS := Lib.hid hss
        have HOA := Lib.hid (HO.out.below hala)
        have HNE := Lib.hid (fun (e : (_ : Value).ownBlock = some wo.heap.size) => Nat.lt_irrefl _ (HO.out.lt _ e).2)
        have HSU := Lib.hid (bopen_succ (B := B) hf)
        have g2A := (hbA.cell (p := ⟨w2.heap.size, 0, none⟩) hlt2).trans HHG.out
        clear hf hss
        go_wp2_with fail
        go_loopw [14, 49] (fun o i wr => ∃ j : Nat, j ≤ m ∧ i = .int .i64 j ∧ Hid (NX (fun _ => False) W2.heap.size wr o (bopen (A.take k) B ++ brow f (B.take j))) ∧ Hid ((bopen (A.take k) B ++ brow f (B.take j)).length ≤ 400 ∧ ∀ z ∈ bopen (A.take k) B ++ brow f (B.take j), bvalid z = true) ∧ Hid (C4 wo.heap.size wr (.slice a0 n0 p0) (.slice a1 n1 p1) (.slice a2 n2 p2) (.slice a3 n3 p3)) ∧ Hid (o.ownBlock ≠ some wo.heap.size) ∧ Below W2.heap.size W2 wr) (fun _ i _ => m - (intOf i).toNat)
        case atStart => exact ⟨0, by omega, rfl, Lib.hid (by simpa [brow] using HOA.out), Lib.hid (by simpa [brow] using HG.out), HCA, Lib.hid (fun e => HNE.out e), hbA⟩
        case round =>
          clear hWa HOA HNE
          obtain ⟨j, hj, rfl, HOJ, HGJ, HCJ, HNJ, hbj⟩ := hrel
          have HSJ := Lib.hid (HSS.out.mono (fun _ _ q => q.below hbj))
          have hzj := hbj.size
          have hCl := HCJ.out.1
          have k0 := HCJ.out.2 0 _ rfl
          have k1 := HCJ.out.2 1 _ rfl
          have k2 := HCJ.out.2 2 _ rfl
          have k3 := HCJ.out.2 3 _ rfl
          by_cases hjt : j < m
          · have j3 : (j : Int) < (m : Int) := by omega
            have j4 : (0 : Int) ≤ (j : Int) := by omega
            obtain ⟨g, hg⟩ : ∃ g, B[j]? = some g := ⟨_, List.getElem?_eq_getElem (by rw [HM.out]; exact hjt)⟩
            obtain ⟨b', o', u0, u1, u2, u3, rfl, hbl', d0, d1, d2, d3, huu⟩ := (HY.out.below hbj).at hg
            obtain ⟨x0, y0, z0, x1, y1, z1, x2, y2, z2, x3, y3, z3, rfl, rfl, rfl, rfl⟩ := sl4_form huu
            have HGG := Lib.hid hg
            have HGV := Lib.hid (HBV.out g (List.mem_of_getElem? hg))
            obtain ⟨Wb, hWb⟩ : ∃ Wb, wr.alloc (.cells #[.slice x0 y0 z0, .slice x1 y1 z1, .slice x2 y2 z2, .slice x3 y3 z3] 132) = Wb := ⟨_, rfl⟩
            have halb : Below wr.heap.size wr Wb := by rw [← hWb]; exact (Below.refl _ _).alloc (Nat.le_refl _) _
            have l0 : Wb.cell? ⟨wr.heap.size, 0, none⟩ = some (.slice x0 y0 z0) := by rw [← hWb]; simp
            have l1 : Wb.cell? ⟨wr.heap.size, 1, none⟩ = some (.slice x1 y1 z1) := by rw [← hWb]; simp
            have l2 : Wb.cell? ⟨wr.heap.size, 2, none⟩ = some (.slice x2 y2 z2) := by rw [← hWb]; simp
            have l3 : Wb.cell? ⟨wr.heap.size, 3, none⟩ = some (.slice x3 y3 z3) := by rw [← hWb]; simp
            have qb : wr.heap.size < Wb.heap.size := by rw [← hWb]; simp
            replace k0 := (halb.cell (p := ⟨wo.heap.size, 0, none⟩) hCl).trans k0
            replace k1 := (halb.cell (p := ⟨wo.heap.size, 1, none⟩) hCl).trans k1
            replace k2 := (halb.cell (p := ⟨wo.heap.size, 2, none⟩) hCl).trans k2
            replace k3 := (halb.cell (p := ⟨wo.heap.size, 3, none⟩) hCl).trans k3
            have hqa : wo.heap.size < Wb.heap.size := by omega
            have hbB := hbj.trans (halb.mono hzj)
            have HFS := Lib.hid (HSJ.out.mono (fun _ _ q => q.below halb))
            have HGS := Lib.hid (huu.mono (fun _ _ q => q.below halb))
            obtain ⟨M, hM⟩ : ∃ M, bmeet f g = M := ⟨_, rfl⟩
            obtain ⟨em, hem⟩ : ∃ em, (!bempty (bmeet f g)) = em := ⟨_, rfl⟩
            have HMM := Lib.hid hM
            have HEM := Lib.hid hem
            have HBS := Lib.hid (brow_succ (f := f) hg)
            have HTB := Lib.hid (HTW.out.below hbB)
            clear hg huu hM
            go_wp2_with fail
            clear hWb
            refine (touches_b HFS.out HGS.out HFV.out HGV.out hem).mono ?_
            rintro e w5 ⟨rfl, hb5⟩
            have hbb5 := halb.trans (hb5.mono halb.size)
            have hB5 := hbj.trans (hbb5.mono hzj)
            have m0 := (hb5.cell (p := ⟨wo.heap.size, 0, none⟩) hqa).trans k0
            have m1 := (hb5.cell (p := ⟨wo.heap.size, 1, none⟩) hqa).trans k1
            have m2 := (hb5.cell (p := ⟨wo.heap.size, 2, none⟩) hqa).trans k2
            have m3 := (hb5.cell (p := ⟨wo.heap.size, 3, none⟩) hqa).trans k3
            have s0 := (hb5.cell (p := ⟨wr.heap.size, 0, none⟩) qb).trans l0
            have s1 := (hb5.cell (p := ⟨wr.heap.size, 1, none⟩) qb).trans l1
            have s2 := (hb5.cell (p := ⟨wr.heap.size, 2, none⟩) qb).trans l2
            have s3 := (hb5.cell (p := ⟨wr.heap.size, 3, none⟩) qb).trans l3
            have HO5 := Lib.hid (HOJ.out.below hbb5)
            have HC5 := Lib.hid (HCJ.out.below hbb5)
            clear k0 k1 k2 k3 l0 l1 l2 l3 hem
            cases em
            · have he : bempty (bmeet f g) = true := by have := HEM.out; simpa using this
              have HE2 := Lib.hid (show brow f (B.take (j + 1)) = brow f (B.take j) by rw [HBS.out, he]; simp)
              clear he
              go_wp2
              go_roundw
              case rel => exact ⟨j + 1, by omega, by go_num, by rw [HE2.out]; exact HO5, by rw [HE2.out]; exact HGJ, HC5, HNJ, hB5⟩
              case measure => simp [intOf]; omega
            · have he : bempty (bmeet f g) = false := by have := HEM.out; simpa using this
              have HE2 := Lib.hid (show brow f (B.take (j + 1)) = brow f (B.take j) ++ [M] by rw [HBS.out, he, HMM.out]; simp)
              obtain ⟨q, hq⟩ : ∃ q, bvalid M = q := ⟨_, rfl⟩
              have HQ := Lib.hid hq
              clear he hq
              go_wp2_with fail
              refine (meet_r HMM.out HQ.out (HTB.out.below hb5) (HFS.out.mono (fun _ _ q => q.below hb5)) (HGS.out.mono (fun _ _ q => q.below hb5)) HFV.out HGV.out).mono ?_
              rintro e w6 ⟨r0, t0, i0, r1, t1, i1, r2, t2, i2, r3, t3, i3, rfl, hres, hb6⟩
              have hz6 := hb6.size
              have hB6 := hB5.trans (hb6.mono hB5.size)
              obtain ⟨W6, hW6⟩ : ∃ W6, w6.alloc (.cells #[.slice r0 t0 i0, .slice r1 t1 i1, .slice r2 t2 i2, .slice r3 t3 i3] 132) = W6 := ⟨_, rfl⟩
              have hal6 : Below w6.heap.size w6 W6 := by rw [← hW6]; exact (Below.refl _ _).alloc (Nat.le_refl _) _
              have l0 : W6.cell? ⟨w6.heap.size, 0, none⟩ = some (.slice r0 t0 i0) := by rw [← hW6]; simp
              have l1 : W6.cell? ⟨w6.heap.size, 1, none⟩ = some (.slice r1 t1 i1) := by rw [← hW6]; simp
              have l2 : W6.cell? ⟨w6.heap.size, 2, none⟩ = some (.slice r2 t2 i2) := by rw [← hW6]; simp
              have l3 : W6.cell? ⟨w6.heap.size, 3, none⟩ = some (.slice r3 t3 i3) := by rw [← hW6]; simp
              have hb66 := hb6.trans (hal6.mono hz6)
              have hB7 := hB5.trans (hb66.mono hB5.size)
              have hwW7 := hwW2.trans (hB7.mono hwW2.size)
              obtain ⟨oa, oc, hov⟩ := HO5.out.form
              obtain ⟨L, hL⟩ : ∃ L, bopen (A.take k) B ++ brow f (B.take j) = L := ⟨_, rfl⟩
              have HMEM := Lib.hid (show ∃ R, bopen A B = (L ++ [M]) ++ R by
                obtain ⟨R, hR⟩ := bopen_pre (B := B) (j := j + 1) HF.out
                exact ⟨R, by rw [hR, HE2.out, ← hL]; simp only [List.append_assoc]⟩)
              have HLL := Lib.hid hL
              rw [hL] at hov HO5 HGJ
              subst hov
              have HRES := Lib.hid hres
              clear m0 m1 m2 m3 s0 s1 s2 s3 hres hL
              cases q
              · have HNO := Lib.hid (HBAD.out (by obtain ⟨R, hR⟩ := HMEM.out; exact rvalid_mem (z := M) (by rw [hR]; simp) HQ.out))
                go_wp2
                go_ret2
                exact ⟨_, _, _, by rw [HNO.out]; rfl, fun l h => (by rw [HNO.out] at h; cases h), hwW7⟩
              · by_cases h400 : L.length = 400
                · have HNO := Lib.hid (HBAD.out (by obtain ⟨R, hR⟩ := HMEM.out; exact rvalid_len (by rw [hR]; simp; omega)))
                  have hq4 : ((L.length : Int) == 400) = true := by rw [h400]; rfl
                  clear h400
                  go_wp2
                  go_ret2
                  exact ⟨_, _, _, by rw [HNO.out]; rfl, fun l h => (by rw [HNO.out] at h; cases h), hwW7⟩
                · have hq4 : ((L.length : Int) == 400) = false := by simpa using (by omega : (L.length : Int) ≠ 400)
                  have hL4 := HGJ.out.1
                  have HO6 := Lib.hid (HO5.out.below hb66)
                  have hres := HRES.out rfl
                  have hal7 : Below W6.heap.size W6 (W6.alloc (.cells #[.slice r0 t0 i0, .slice r1 t1 i1, .slice r2 t2 i2, .slice r3 t3 i3] 132)) := (Below.refl _ _).alloc (Nat.le_refl _) _
                  have hown : ∀ z, (Value.slice oa L.length oc).ownBlock = some z → z < w5.heap.size := fun z hz => (HO5.out.lt z hz).2
                  obtain ⟨v8, w8, hrun, hG8, hgr8, hat8⟩ := nx_append (cs := [M]) (vx := .slice (some ⟨W6.heap.size, 0, none⟩) 1 1) 99 (HO6.out.below hal7) ⟨[⟨.slice r0 t0 i0, .slice r1 t1 i1, .slice r2 t2 i2, .slice r3 t3 i3⟩], SlFr.of (lit4_at W6 _ _ _ _ _), ⟨rfl, fun i x y hx hy => by
                    match i, hx, hy with
                    | 0, hx, hy =>
                      cases hx; cases hy
                      exact hres.mono (fun _ _ q => (SpV.highX (q.below (hal6.trans (hal7.mono hal6.size))) (fun z hz => hz.elim (fun e => hown z e.symm) (fun h => h.elim))))
                    | i + 1, hx, hy => simp at hx⟩⟩ (by simp; omega) (by have := hB7.size; simp; omega)
                  have hsz8 := hgr8.size
                  have hlow : ∀ z, (Value.slice oa L.length oc).ownBlock = some z → W2.heap.size ≤ z := fun z hz => (HO5.out.lt z hz).1
                  have hB8 : Below W2.heap.size W2 w8 := (hB7.trans (hal7.mono hB7.size)).grown hgr8 (by have := hB7.size; simp; omega) hlow
                  have hwz5 := hbb5.size
                  have hwz6 := hb66.size
                  have hz67 : (W6.alloc (.cells #[.slice r0 t0 i0, .slice r1 t1 i1, .slice r2 t2 i2, .slice r3 t3 i3] 132)).heap.size = W6.heap.size + 1 := by simp
                  have hne8 : ∀ p, p < wr.heap.size → some p ≠ (Value.slice oa L.length oc).ownBlock → w8.heap[p]? = wr.heap[p]? := fun p h1 h2 => (hgr8.block p (by omega) h2).trans (((hbb5.trans (hb66.mono hbb5.size)).trans (hal7.mono (by omega))).block p h1)
                  have HGN := Lib.hid (show (L ++ [M]).length ≤ 400 ∧ ∀ z ∈ L ++ [M], bvalid z = true from ⟨by simp; omega, fun z hz => by
                    rcases List.mem_append.1 hz with h | h
                    · exact HGJ.out.2 z h
                    · rw [List.mem_singleton.1 h]; exact HQ.out⟩)
                  have HG8 := Lib.hid hG8
                  have HJN := Lib.hid (show bopen (A.take k) B ++ brow f (B.take (j + 1)) = L ++ [M] by rw [HE2.out, ← List.append_assoc, HLL.out])
                  have HCN := Lib.hid (show C4 wo.heap.size w8 (.slice a0 n0 p0) (.slice a1 n1 p1) (.slice a2 n2 p2) (.slice a3 n3 p3) from ⟨by omega, fun i v hi => by
                    have h1 := HCJ.out.2 i v hi
                    exact (World.cell?_of_block (a := ⟨wo.heap.size, i, none⟩) (hne8 _ hCl (fun e => HNJ.out e.symm))).trans h1⟩)
                  have HNN := Lib.hid (show v8.ownBlock ≠ some wo.heap.size from fun e => by
                    rcases hat8 _ e with h | h
                    · exact HNJ.out h
                    · omega)
                  clear h400 hres hgr8 hat8 hG8
                  go_wp2_with (at_builtin; refine wpList_append_run rfl _ _ 99 rfl rfl rfl hrun ?_)
                  refine ⟨⟨j + 1, by omega, by go_num, by rw [HJN.out]; exact HG8, by rw [HJN.out]; exact HGN, HCN, HNN, hB8⟩, ?_⟩
                  simp [intOf]; omega
          · have HT2 := Lib.hid (show bopen (A.take (k + 1)) B = bopen (A.take k) B ++ brow f (B.take j) by rw [HSU.out, show B.take j = B from List.take_of_length_le (by rw [HM.out]; omega)])
            go_wp2
            go_roundw
            case rel => exact ⟨k + 1, by omega, by go_num, by rw [HT2.out]; exact HOJ, by rw [HT2.out]; exact HGJ, hbj⟩
            case measure => simp [intOf]; omega
      · have HFIN := Lib.hid (HOK.out (by
          have h := HG.out
          rw [List.take_of_length_le (by rw [HN.out]; omega)] at h
          unfold rvalid
          rw [Bool.and_eq_true, decide_eq_true_eq, List.all_eq_true]
          exact h))
        have HI := Lib.hid (show Iss 0 wo _ (bopen A B) by have h := HO.out.iss; rwa [List.take_of_length_le (by rw [HN.out]; omega)] at h)
        obtain ⟨ra, rc, hrv, -, -⟩ := HI.out.form
        subst hrv
        have hwF := hwW2.trans (hbr.mono hwW2.size)
        go_wp2
        go_ret2
        exact ⟨_, _, _, by rw [HFIN.out]; rfl, fun l h => (by rw [HFIN.out] at h; cases h; exact HI.out), hwF⟩
  · have HNO := Lib.hid (show nopenO fs r gs c = none by
      have h1 := HQA.out
      have h2 := HQB.out
      cases qa
      · exact nopenO_no (.inl (by rw [HFA.out]; exact Option.not_isSome_iff_eq_none.1 (by rw [h1]; simp)))
      · cases qb
        · exact nopenO_no (.inr (by rw [HFB.out]; exact Option.not_isSome_iff_eq_none.1 (by rw [h2]; simp)))
        · exact absurd ⟨rfl, rfl⟩ hqq)
    cases qa <;> cases qb <;> first | exact absurd ⟨rfl, rfl⟩ hqq | (clear hqq; go_wp2; go_ret2; exact ⟨_, _, _, by rw [HNO.out]; rfl, fun l h => (by rw [HNO.out] at h; cases h), hwW2⟩)
end Go.Proofs.YtibanpeiigbofaaDoor
