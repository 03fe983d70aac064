/- Newly open packets: both functions. -/
import Derived.Test.YtajcogpfmpehkaaGreatDoorFdI
import Derived.Test.YtajcogpfmpehkaaGreatDoorPaI
import Derived.Test.YtajcogpfmpehkaaGreatDoorFdS
namespace Go.Proofs.YtajcogpfmpehkaaGreatDoor
open Go.RowKit
/-- The first k sets are there. -/
def SDm (b : Bx) (S : Nat) (w : World) (k : Nat) : Prop := ∀ j, j < 4 → ∃ v, w.cell? ⟨S, j, none⟩ = some v ∧ ((j < k ∧ Sps (S + 1) w v (b.getD j [])) ∨ (k ≤ j ∧ v = .slice none 0 0))
theorem SDm.below {b : Bx} {S : Nat} {w w' : World} {k : Nat} (h : SDm b S w k) (hS : S < w.heap.size) (hb : Below w.heap.size w w') : SDm b S w' k := fun j hj => by
  obtain ⟨v, h1, h2⟩ := h j hj
  exact ⟨v, (hb.cell (p := ⟨S, j, none⟩) hS).trans h1, h2.imp (fun ⟨g1, g2⟩ => ⟨g1, g2.below hb⟩) id⟩
theorem SDm.step {b : Bx} {S : Nat} {w : World} {k : Nat} {v : Value} (h : SDm b S w k) (hv : Sps (S + 1) w v (b.getD k [])) : SDm b S (w.setCell ⟨S, k, none⟩ v) (k + 1) := fun j hj => by
  have hkp : Kp (S + 1) w (w.setCell ⟨S, k, none⟩ v) := ⟨by simp, fun q q1 _ => Below.heap_setCell _ _ _ _ (by simp only; omega)⟩
  obtain ⟨u, h1, h2⟩ := h j hj
  by_cases e : j = k
  · subst e
    exact ⟨v, World.cell?_setCell_same' _ _ _ (by rw [h1]; rfl), .inl ⟨by omega, hv.keep hkp⟩⟩
  · refine ⟨u, by rw [World.cell?_setCell_other _ _ _ _ (fun e2 => e (Addr.mk.inj e2).2.1.symm)]; exact h1, ?_⟩
    rcases h2 with ⟨g1, g2⟩ | ⟨g1, g2⟩
    · exact .inl ⟨by omega, g2.keep hkp⟩
    · exact .inr ⟨by omega, g2⟩
def Zro4 (S : Nat) (w : World) : Prop := S < w.heap.size ∧ (∀ j, j < 4 → w.cell? ⟨S, j, none⟩ = some (.slice none 0 0)) ∧ ∀ j, w.frozen? ⟨S, j, none⟩ = false
theorem Zro4.below {S : Nat} {w w' : World} (h : Zro4 S w) (hb : Below w.heap.size w w') : Zro4 S w' :=
  ⟨Nat.lt_of_lt_of_le h.1 hb.size, fun j hj => (hb.cell (p := ⟨S, j, none⟩) h.1).trans (h.2.1 j hj), fun j => (hb.frozen (p := ⟨S, j, none⟩) h.1).trans (h.2.2 j)⟩
/-- Four cells of a block. -/
def C4 (S : Nat) (w : World) (v0 v1 v2 v3 : Value) : Prop := S < w.heap.size ∧ ∀ j v, [v0, v1, v2, v3][j]? = some v → w.cell? ⟨S, j, none⟩ = some v
theorem C4.below {S : Nat} {w w' : World} {v0 v1 v2 v3 : Value} (h : C4 S w v0 v1 v2 v3) (hb : Below w.heap.size w w') : C4 S w' v0 v1 v2 v3 :=
  ⟨Nat.lt_of_lt_of_le h.1 hb.size, fun j v hj => (hb.cell (p := ⟨S, j, none⟩) h.1).trans (h.2 j v hj)⟩
theorem bmeet_fits {a b : Bx} (ha : bvalid a = true) (hb : bvalid b = true) (h : ∀ k, k < 4 → ((bmeet a b).getD k []).length ≤ 40) : bvalid (bmeet a b) = true := by
  refine bvalid_iff.2 ⟨bmeet_len (bvalid_iff.1 ha).1 (bvalid_iff.1 hb).1, fun n hn => ?_⟩
  obtain ⟨z, hz, gz⟩ := bmeet_good ha hb hn
  have := h n hn
  rw [getD_get hz] at this ⊢
  rw [svalid_of hn gz]
  exact decide_eq_true this
theorem bmeet_not {a b : Bx} {k : Nat} (hk : k < 4) (h : ¬ ((bmeet a b).getD k []).length ≤ 40) : bvalid (bmeet a b) = false := by
  rw [← Bool.not_eq_true]
  intro hv
  exact h (svalid_len ((bvalid_iff.1 hv).2 k hk))
set_option maxHeartbeats 4000000 in
set_option maxRecDepth 100000 in
theorem meet_any {lo lo' : Nat} (a b : Bx) (v0 v1 v2 v3 u0 u1 u2 u3 : Value) (w : World) (ht : Tab w) (hs : All2 (Sps lo w) [v0, v1, v2, v3] a) (hu : All2 (Sps lo' w) [u0, u1, u2, u3] b) (ha : bvalid a = true) (hb : bvalid b = true) :
    Calls Tryz.prog 61 #[.agg #[v0, v1, v2, v3], .agg #[u0, u1, u2, u3]] w fun e w' => ∃ a0 n0 p0 a1 n1 p1 a2 n2 p2 a3 n3 p3, e = .returned (.tuple #[.agg #[.slice a0 n0 p0, .slice a1 n1 p1, .slice a2 n2 p2, .slice a3 n3 p3], .bool (bvalid (bmeet a b))]) ∧ (bvalid (bmeet a b) = true → All2 (Sps w.heap.size w') [.slice a0 n0 p0, .slice a1 n1 p1, .slice a2 n2 p2, .slice a3 n3 p3] (bmeet a b)) ∧ Below w.heap.size w w' := by
  obtain ⟨x0, y0, z0, x1, y1, z1, x2, y2, z2, x3, y3, z3, rfl, rfl, rfl, rfl⟩ := sl4_form hs
  obtain ⟨X0, Y0, Z0, X1, Y1, Z1, X2, Y2, Z2, X3, Y3, Z3, rfl, rfl, rfl, rfl⟩ := sl4_form hu
  obtain ⟨W, hW⟩ : ∃ W, ((((w.alloc (.cells #[.slice x0 y0 z0, .slice x1 y1 z1, .slice x2 y2 z2, .slice x3 y3 z3] 77)).alloc (.cells #[.slice X0 Y0 Z0, .slice X1 Y1 Z1, .slice X2 Y2 Z2, .slice X3 Y3 Z3] 77)).alloc (.cells #[.slice none 0 0, .slice none 0 0, .slice none 0 0, .slice none 0 0] 77)).alloc (.cells #[.slice none 0 0, .slice none 0 0, .slice none 0 0, .slice none 0 0] 77)) = W := ⟨_, rfl⟩
  have hal : Below w.heap.size w W := by rw [← hW]; (repeat' (first | with_reducible exact Below.refl _ _ | with_reducible assumption | with_reducible refine Below.setCell ?_ ?_ _ | with_reducible refine Below.alloc ?_ ?_ _ | with_reducible refine Below.drew ?_ | with_reducible refine belDrewN ?_ _ | with_reducible refine Below.trans ?_ (Below.mono (by assumption) ?_) | omega | (simp; omega) | (simp; done)))
  have qz : W.heap.size = w.heap.size + 1 + 1 + 1 + 1 := by rw [← hW]; simp
  have HA4 := alloc4_cells w #[.slice x0 y0 z0, .slice x1 y1 z1, .slice x2 y2 z2, .slice x3 y3 z3] #[.slice X0 Y0 Z0, .slice X1 Y1 Z1, .slice X2 Y2 Z2, .slice X3 Y3 Z3] #[.slice none 0 0, .slice none 0 0, .slice none 0 0, .slice none 0 0] #[.slice none 0 0, .slice none 0 0, .slice none 0 0, .slice none 0 0] 77 77 77 77
  rw [hW] at HA4
  have hl1 : w.heap.size < W.heap.size := by omega
  have hl2 : w.heap.size + 1 < W.heap.size := by omega
  have HC1 := Lib.hid (show ∀ w', Below (w.heap.size + 1 + 1) W w' → ∀ j v, [Value.slice x0 y0 z0, .slice x1 y1 z1, .slice x2 y2 z2, .slice x3 y3 z3][j]? = some v → w'.cell? ⟨w.heap.size, j, none⟩ = some v from fun w' hb j v hj => by
    rw [hb.cell (p := ⟨w.heap.size, j, none⟩) (by simp only; omega), HA4.1 j]
    simpa using hj)
  have HC2 := Lib.hid (show ∀ w', Below (w.heap.size + 1 + 1) W w' → ∀ j v, [Value.slice X0 Y0 Z0, .slice X1 Y1 Z1, .slice X2 Y2 Z2, .slice X3 Y3 Z3][j]? = some v → w'.cell? ⟨w.heap.size + 1, j, none⟩ = some v from fun w' hb j v hj => by
    rw [hb.cell (p := ⟨w.heap.size + 1, j, none⟩) (by simp only; omega), HA4.2.1 j]
    simpa using hj)
  have HZ0 := Lib.hid (show Zro4 (w.heap.size + 1 + 1) W from ⟨by omega, fun j hj => by
    rw [(HA4.2.2.1 j).1]
    rcases (by omega : j = 0 ∨ j = 1 ∨ j = 2 ∨ j = 3) with rfl | rfl | rfl | rfl <;> rfl, fun j => (HA4.2.2.1 j).2⟩)
  have HD0 := Lib.hid (show SDm (bmeet a b) (w.heap.size + 1 + 1 + 1) W 0 from fun j hj => ⟨.slice none 0 0, by
    rw [(HA4.2.2.2 j).1]
    rcases (by omega : j = 0 ∨ j = 1 ∨ j = 2 ∨ j = 3) with rfl | rfl | rfl | rfl <;> rfl, .inr ⟨Nat.zero_le _, rfl⟩⟩)
  have HF0 := Lib.hid (show ∀ j, W.frozen? ⟨w.heap.size + 1 + 1 + 1, j, none⟩ = false from fun j => (HA4.2.2.2 j).2)
  have HS := Lib.hid hs
  have HU := Lib.hid hu
  have HA := Lib.hid ha
  have HB := Lib.hid hb
  have HT := Lib.hid ht
  clear HA4 hs hu ha hb ht
  go_enter Tryz.func61, Tryz.ntmps61
  go_wp2_with fail
  go_loopw [7, 8, 9, 10] (fun _ _ _ i wr => ∃ k : Nat, k ≤ 4 ∧ i = .int .i64 k ∧ Hid (∀ j, j < k → ((bmeet a b).getD j []).length ≤ 40) ∧ Hid (SDm (bmeet a b) (w.heap.size + 1 + 1 + 1) wr k) ∧ Hid (∀ j, wr.frozen? ⟨w.heap.size + 1 + 1 + 1, j, none⟩ = false) ∧ Below (w.heap.size + 1 + 1 + 1) W wr) (fun _ _ _ i _ => 4 - (intOf i).toNat)
  case atStart => exact ⟨0, by omega, rfl, Lib.hid (fun j h => by omega), HD0, HF0, Below.refl _ _⟩
  case round =>
    clear HD0 HF0 hW
    obtain ⟨k, hk, rfl, HK, HD, HF, hbr⟩ := hrel
    have hzr := hbr.size
    have hbr2 : Below (w.heap.size + 1 + 1) W wr := hbr.mono (by omega)
    have hwr := hal.trans (hbr.mono (by omega))
    have HZ := Lib.hid (show Zro4 (w.heap.size + 1 + 1) wr from ⟨by omega, fun j hj => (hbr.cell (p := ⟨w.heap.size + 1 + 1, j, none⟩) (by simp only; omega)).trans (HZ0.out.2.1 j hj), fun j => (hbr.frozen (p := ⟨w.heap.size + 1 + 1, j, none⟩) (by simp only; omega)).trans (HZ0.out.2.2 j)⟩)
    by_cases hlt : k < 4
    · have i1 : (k : Int) < 4 := by omega
      have i2 : (0 : Int) ≤ (k : Int) := by omega
      obtain ⟨x, hx, vx⟩ := bvalid_get HA.out hlt
      obtain ⟨y, hy, vy⟩ := bvalid_get HB.out hlt
      obtain ⟨sv, hsv, hss⟩ := HS.out.left hx
      obtain ⟨tv, htv, htt⟩ := HU.out.left hy
      have d1 := HC1.out wr hbr2 k sv hsv
      have d2 := HC2.out wr hbr2 k tv htv
      have hz1 : w.heap.size < wr.heap.size := by omega
      have hz2 : w.heap.size + 1 < wr.heap.size := by omega
      obtain ⟨M, hM⟩ : ∃ M, smeet x y = M := ⟨_, rfl⟩
      obtain ⟨r2, hr2⟩ : ∃ r, decide (M.length ≤ 40) = r := ⟨_, rfl⟩
      have HME := Lib.hid hM
      have HR2 := Lib.hid hr2
      have HMG := Lib.hid (show (bmeet a b).getD k [] = M by rw [getD_get (bmeet_get hx hy), hM])
      obtain ⟨sa, sn, sc, rfl⟩ : ∃ a n c, sv = .slice a n c := by obtain ⟨a, c, h, -, -⟩ := hss.form; exact ⟨_, _, _, h⟩
      obtain ⟨ta, tn, tc, rfl⟩ : ∃ a n c, tv = .slice a n c := by obtain ⟨a, c, h, -, -⟩ := htt.form; exact ⟨_, _, _, h⟩
      have HSS := Lib.hid (hss.below hwr)
      have HTT := Lib.hid (htt.below hwr)
      have GX := Lib.hid (svalid_good vx)
      have GY := Lib.hid (svalid_good vy)
      have HTR := Lib.hid (HT.out.below hwr)
      obtain ⟨t0, t1⟩ := top_le hlt
      clear hM hr2 hss htt hsv htv hx hy vx vy
      go_wp2_with fail
      (refine wp_region_bel (W := wr) [BIs (.int .i64 (k : Int)), BIs (.pointer (some ⟨w.heap.size, k, none⟩)), BIs (.slice sa sn sc), BIs (.int .i64 (k : Int)), BIs (.pointer (some ⟨w.heap.size + 1, k, none⟩)), BIs (.slice ta tn tc), BIs (.int .i64 (k : Int)), (BIs (.int .i64 (top k))), (fun w v => ∃ q, v = .tuple #[q, .bool r2] ∧ OwnSp wr.heap.size w q (slim M)), (fun w v => ∃ q, v = .tuple #[q, .bool r2] ∧ OwnSp wr.heap.size w q (slim M)), (fun w v => OwnSp wr.heap.size w v (slim M)), BIs (.bool r2), (fun w v => OwnSp wr.heap.size w v (slim M)), BIs (.bool r2)] (by kernel_rfl) (fun u => by simp only [frU, Act.put, List.setIfInBounds_toArray, List.set_cons_succ, List.set_cons_zero, Nat.zero_add, Nat.reduceAdd]; exact rfl) (by kernel_rfl) ⟨bst_is _, bst_is _, bst_is _, bst_is _, bst_is _, bst_is _, bst_is _, (bst_is _), (fun _ _ _ hb ⟨q, h1, h2⟩ => ⟨q, h1, OwnSl.kept h2 hb⟩), (fun _ _ _ hb ⟨q, h1, h2⟩ => ⟨q, h1, OwnSl.kept h2 hb⟩), (fun _ _ _ hb h => OwnSl.kept h hb), bst_is _, (fun _ _ _ hb h => OwnSl.kept h hb), bst_is _, trivial⟩ ?_ ?_; exact ⟨stB rfl (fun u w3 hC hd Q K hK => by (go_step; exact hK _ _ rfl (Below.refl _ _) rfl)), stB rfl (fun u w3 hC hd Q K hK => by (have hu := bis (w := w3) (hd 0 rfl); rw [hu] at hK ⊢; clear hu; go_step; exact hK _ _ rfl (Below.refl _ _) rfl)), stB rfl (fun u w3 hC hd Q K hK => by (have hu := bis (w := w3) (hd 1 rfl); rw [hu] at hK ⊢; clear hu; have z1 := (hC.cell (p := ⟨w.heap.size, k, none⟩) hz1).trans d1; go_step; exact hK _ _ rfl (Below.refl _ _) rfl)), stB rfl (fun u w3 hC hd Q K hK => by (go_step; exact hK _ _ rfl (Below.refl _ _) rfl)), stB rfl (fun u w3 hC hd Q K hK => by (have hu := bis (w := w3) (hd 3 rfl); rw [hu] at hK ⊢; clear hu; go_step; exact hK _ _ rfl (Below.refl _ _) rfl)), stB rfl (fun u w3 hC hd Q K hK => by (have hu := bis (w := w3) (hd 4 rfl); rw [hu] at hK ⊢; clear hu; have z1 := (hC.cell (p := ⟨w.heap.size + 1, k, none⟩) hz2).trans d2; go_step; exact hK _ _ rfl (Below.refl _ _) rfl)), stB rfl (fun u w3 hC hd Q K hK => by (go_step; exact hK _ _ rfl (Below.refl _ _) rfl)), stB rfl (fun u w3 hC hd Q K hK => by (have hu := bis (w := w3) (hd 6 rfl); rw [hu] at hK ⊢; clear hu; go_step; refine (FieldTop_any k hlt _ (HTR.out.below hC)).mono ?_; rintro e w4 ⟨rfl, rfl⟩; exact hK _ _ rfl (Below.refl _ _) rfl)), stB rfl (fun u w3 hC hd Q K hK => by (have hu := bis (w := w3) (hd 2 rfl); rw [hu] at hK ⊢; clear hu; have hu := bis (w := w3) (hd 5 rfl); rw [hu] at hK ⊢; clear hu; have hu := bis (w := w3) (hd 7 rfl); rw [hu] at hK ⊢; clear hu; go_step; refine (meetSpans_r HME.out HR2.out (HSS.out.below hC) (HTT.out.below hC) GX.out GY.out t0 t1).mono ?_; rintro e w4 ⟨z4, rfl, ho4, hb4⟩; exact hK _ _ rfl hb4 ⟨z4, rfl, OwnSl.mono ho4 hC.size⟩)), stB rfl (fun u w3 hC hd Q K hK => by (obtain ⟨y, hu, ho⟩ := hd 8 rfl; rw [hu] at hK ⊢; clear hu; go_step; exact hK _ _ rfl (Below.refl _ _) ⟨y, rfl, ho⟩)), stB rfl (fun u w3 hC hd Q K hK => by (obtain ⟨y, hu, ho⟩ := hd 9 rfl; rw [hu] at hK ⊢; clear hu; go_step; exact hK _ _ rfl (Below.refl _ _) ho)), stB rfl (fun u w3 hC hd Q K hK => by (obtain ⟨y, hu, -⟩ := hd 9 rfl; rw [hu] at hK ⊢; clear hu; go_step; exact hK _ _ rfl (Below.refl _ _) rfl)), stB rfl (fun u w3 hC hd Q K hK => by (have ho1 := hd 10 rfl; generalize u 10 = v1 at *; go_step; exact hK _ _ rfl (Below.refl _ _) ho1)), stB rfl (fun u w3 hC hd Q K hK => by (have hu := bis (w := w3) (hd 11 rfl); rw [hu] at hK ⊢; clear hu; go_step; exact hK _ _ rfl (Below.refl _ _) rfl)), trivial⟩); intro u w9 hb_w9 hF; rw [bis (w := w9) (hF 0 (by decide))]; rw [bis (w := w9) (hF 1 (by decide))]; rw [bis (w := w9) (hF 2 (by decide))]; rw [bis (w := w9) (hF 3 (by decide))]; rw [bis (w := w9) (hF 4 (by decide))]; rw [bis (w := w9) (hF 5 (by decide))]; rw [bis (w := w9) (hF 6 (by decide))]; generalize u 7 = vx7 at *; generalize u 8 = vx8 at *; generalize u 9 = vx9 at *; generalize u 10 = vx10 at *; rw [bis (w := w9) (hF 11 (by decide))]; have hz0 := hF 12 (by decide); generalize u 12 = z2 at *; rw [bis (w := w9) (hF 13 (by decide))]; clear hF
      replace hz0 : OwnSp wr.heap.size w9 z2 (slim M) := hz0
      obtain ⟨zb, zd, rfl, -, -⟩ := (OwnSp.sps hz0).form
      have hz9 := hb_w9.size
      have hB9 : Below (w.heap.size + 1 + 1 + 1) W w9 := hbr.trans (hb_w9.mono (by omega))
      have hw9 := hal.trans (hB9.mono (by omega))
      have HD9 := Lib.hid (HD.out.below (by omega) hb_w9)
      have HF9 := Lib.hid (fun j => (hb_w9.frozen (p := ⟨w.heap.size + 1 + 1 + 1, j, none⟩) (by simp only; omega)).trans (HF.out j))
      have HO9 := Lib.hid hz0
      have HZ9 := Lib.hid (HZ.out.below hb_w9)
      clear hz0 d1 d2 HD HF HZ hb_w9
      cases r2
      · have HNO := Lib.hid (bmeet_not (a := a) (b := b) hlt (by rw [HMG.out]; exact of_decide_eq_false HR2.out))
        obtain ⟨-, q2, q3⟩ := HZ9.out
        have k0 := q2 0 (by omega)
        have k1 := q2 1 (by omega)
        have k2 := q2 2 (by omega)
        have k3 := q2 3 (by omega)
        have g0 := q3 0
        have g1 := q3 1
        have g2 := q3 2
        have g3 := q3 3
        have hB : w.heap.size ≤ w.heap.size + 1 + 1 := by omega
        have hwS := (((hw9.setCell (p := ⟨w.heap.size + 1 + 1, 0, none⟩) hB (.slice none 0 0)).setCell (p := ⟨w.heap.size + 1 + 1, 1, none⟩) hB (.slice none 0 0)).setCell (p := ⟨w.heap.size + 1 + 1, 2, none⟩) hB (.slice none 0 0)).setCell (p := ⟨w.heap.size + 1 + 1, 3, none⟩) hB (.slice none 0 0)
        clear q2 q3
        go_wp2
        refine bodyPost_ret (v := .tuple #[.agg #[.slice none 0 0, .slice none 0 0, .slice none 0 0, .slice none 0 0], .bool false]) ?_ rfl ⟨_, _, _, _, _, _, _, _, _, _, _, _, by rw [HNO.out], fun h => (by rw [HNO.out] at h; cases h), hwS⟩
        simp [results, Tryz.results61, go_sem, k0, k1, k2, k3]
      · have HFT := Lib.hid (of_decide_eq_true HR2.out)
        have HSM := Lib.hid (show slim M = M by unfold slim; rw [if_pos HFT.out])
        obtain ⟨u, hu, -⟩ := HD9.out k hlt
        have hfk := HF9.out k
        have HK2 := Lib.hid (show ∀ j, j < k + 1 → ((bmeet a b).getD j []).length ≤ 40 from fun j hj => by
          rcases Nat.lt_or_ge j k with h1 | h1
          · exact HK.out j h1
          · rw [show j = k by omega, HMG.out]; exact HFT.out)
        have HDS := Lib.hid (HD9.out.step (v := .slice zb (slim M).length zd) (by rw [HMG.out]; exact (congrArg (fun L => Sps (w.heap.size + 1 + 1 + 1 + 1) w9 (.slice zb (slim M).length zd) L) HSM.out).mp (OwnSp.sps (OwnSl.mono HO9.out (show w.heap.size + 1 + 1 + 1 + 1 ≤ wr.heap.size by omega)))))
        have hbS := hB9.setCell (p := ⟨w.heap.size + 1 + 1 + 1, k, none⟩) (Nat.le_refl _) (.slice zb (slim M).length zd)
        have HFS := Lib.hid (show ∀ j, (w9.setCell ⟨w.heap.size + 1 + 1 + 1, k, none⟩ (.slice zb (slim M).length zd)).frozen? ⟨w.heap.size + 1 + 1 + 1, j, none⟩ = false from fun j => by rw [World.frozen?_setCell]; exact HF9.out j)
        go_wp2
        go_roundw
        case rel => exact ⟨k + 1, by omega, by go_num, HK2, HDS, HFS, hbS⟩
        case measure => simp [intOf]; omega
    · have hk4 : k = 4 := by omega
      subst hk4
      have HY := Lib.hid (bmeet_fits HA.out HB.out HK.out)
      obtain ⟨v0, c0, h0⟩ := HD.out 0 (by omega)
      obtain ⟨v1, c1, h1⟩ := HD.out 1 (by omega)
      obtain ⟨v2, c2, h2⟩ := HD.out 2 (by omega)
      obtain ⟨v3, c3, h3⟩ := HD.out 3 (by omega)
      replace h0 := h0.elim (fun h => h.2) (fun h => absurd h.1 (by omega))
      replace h1 := h1.elim (fun h => h.2) (fun h => absurd h.1 (by omega))
      replace h2 := h2.elim (fun h => h.2) (fun h => absurd h.1 (by omega))
      replace h3 := h3.elim (fun h => h.2) (fun h => absurd h.1 (by omega))
      obtain ⟨a0, n0, p0, rfl⟩ : ∃ a n c, v0 = .slice a n c := by obtain ⟨a, c, h, -, -⟩ := h0.form; exact ⟨_, _, _, h⟩
      obtain ⟨a1, n1, p1, rfl⟩ : ∃ a n c, v1 = .slice a n c := by obtain ⟨a, c, h, -, -⟩ := h1.form; exact ⟨_, _, _, h⟩
      obtain ⟨a2, n2, p2, rfl⟩ : ∃ a n c, v2 = .slice a n c := by obtain ⟨a, c, h, -, -⟩ := h2.form; exact ⟨_, _, _, h⟩
      obtain ⟨a3, n3, p3, rfl⟩ : ∃ a n c, v3 = .slice a n c := by obtain ⟨a, c, h, -, -⟩ := h3.form; exact ⟨_, _, _, h⟩
      obtain ⟨-, q2, q3⟩ := HZ.out
      have k0 := q2 0 (by omega)
      have k1 := q2 1 (by omega)
      have k2 := q2 2 (by omega)
      have k3 := q2 3 (by omega)
      have g0 := q3 0
      have g1 := q3 1
      have g2 := q3 2
      have g3 := q3 3
      have hB : w.heap.size ≤ w.heap.size + 1 + 1 := by omega
      have hwS := (((hwr.setCell (p := ⟨w.heap.size + 1 + 1, 0, none⟩) hB (.slice a0 n0 p0)).setCell (p := ⟨w.heap.size + 1 + 1, 1, none⟩) hB (.slice a1 n1 p1)).setCell (p := ⟨w.heap.size + 1 + 1, 2, none⟩) hB (.slice a2 n2 p2)).setCell (p := ⟨w.heap.size + 1 + 1, 3, none⟩) hB (.slice a3 n3 p3)
      have hkp : Kp (w.heap.size + 1 + 1 + 1 + 1) wr ((((wr.setCell ⟨w.heap.size + 1 + 1, 0, none⟩ (.slice a0 n0 p0)).setCell ⟨w.heap.size + 1 + 1, 1, none⟩ (.slice a1 n1 p1)).setCell ⟨w.heap.size + 1 + 1, 2, none⟩ (.slice a2 n2 p2)).setCell ⟨w.heap.size + 1 + 1, 3, none⟩ (.slice a3 n3 p3)) := ⟨by simp, fun q q1 _ => by
        rw [Below.heap_setCell _ _ _ _ (by simp only; omega), Below.heap_setCell _ _ _ _ (by simp only; omega), Below.heap_setCell _ _ _ _ (by simp only; omega), Below.heap_setCell _ _ _ _ (by simp only; omega)]⟩
      have hM4 := bmeet_len (bvalid_iff.1 HA.out).1 (bvalid_iff.1 HB.out).1
      have HRES := Lib.hid (show All2 (Sps w.heap.size ((((wr.setCell ⟨w.heap.size + 1 + 1, 0, none⟩ (.slice a0 n0 p0)).setCell ⟨w.heap.size + 1 + 1, 1, none⟩ (.slice a1 n1 p1)).setCell ⟨w.heap.size + 1 + 1, 2, none⟩ (.slice a2 n2 p2)).setCell ⟨w.heap.size + 1 + 1, 3, none⟩ (.slice a3 n3 p3))) [.slice a0 n0 p0, .slice a1 n1 p1, .slice a2 n2 p2, .slice a3 n3 p3] (bmeet a b) from ⟨by rw [hM4]; rfl, fun j x y hx hy => by
        have hy' := getD_get (d := []) hy
        match j, hx with
        | 0, hx => cases hx; rw [← hy']; exact (h0.keep hkp).mono (by omega)
        | 1, hx => cases hx; rw [← hy']; exact (h1.keep hkp).mono (by omega)
        | 2, hx => cases hx; rw [← hy']; exact (h2.keep hkp).mono (by omega)
        | 3, hx => cases hx; rw [← hy']; exact (h3.keep hkp).mono (by omega)
        | j + 4, hx => simp at hx⟩)
      have hne2 : ∀ p q : Nat, (⟨w.heap.size + 1 + 1, p, none⟩ : Addr) ≠ ⟨w.heap.size + 1 + 1 + 1, q, none⟩ := fun p q e => by have := (Addr.mk.inj e).1; omega
      clear q2 q3 h0 h1 h2 h3 hkp
      go_wp2
      refine bodyPost_ret (v := .tuple #[.agg #[.slice a0 n0 p0, .slice a1 n1 p1, .slice a2 n2 p2, .slice a3 n3 p3], .bool true]) ?_ rfl ⟨_, _, _, _, _, _, _, _, _, _, _, _, by rw [HY.out], fun _ => HRES.out, hwS⟩
      simp [results, Tryz.results61, go_sem, k0, k1, k2, k3]
theorem meet_r {lo lo' : Nat} {a b M : Bx} {v0 v1 v2 v3 u0 u1 u2 u3 : Value} {w : World} {q : Bool} (h : bmeet a b = M) (hq : bvalid M = q) (ht : Tab w) (hs : All2 (Sps lo w) [v0, v1, v2, v3] a) (hu : All2 (Sps lo' w) [u0, u1, u2, u3] b) (ha : bvalid a = true) (hb : bvalid b = true) :
    Calls Tryz.prog 61 #[.agg #[v0, v1, v2, v3], .agg #[u0, u1, u2, u3]] w fun e w' => ∃ a0 n0 p0 a1 n1 p1 a2 n2 p2 a3 n3 p3, e = .returned (.tuple #[.agg #[.slice a0 n0 p0, .slice a1 n1 p1, .slice a2 n2 p2, .slice a3 n3 p3], .bool q]) ∧ (q = true → All2 (Sps w.heap.size w') [.slice a0 n0 p0, .slice a1 n1 p1, .slice a2 n2 p2, .slice a3 n3 p3] M) ∧ Below w.heap.size w w' := by
  subst h hq
  exact meet_any a b v0 v1 v2 v3 u0 u1 u2 u3 w ht hs hu ha hb
-- MADE3 --
/-- The common packets of one box with those of a list. -/
def brow (f : Bx) (B : List Bx) : List Bx := (B.map (bmeet f)).filter (fun m => !bempty m)
theorem bopen_append (A A' B : List Bx) : bopen (A ++ A') B = bopen A B ++ bopen A' B := by unfold bopen; rw [List.flatMap_append]
theorem bopen_succ {A B : List Bx} {k : Nat} {f : Bx} (h : A[k]? = some f) : bopen (A.take (k + 1)) B = bopen (A.take k) B ++ brow f B := by
  rw [List.take_add_one, h, Option.toList_some, bopen_append]
  unfold bopen brow
  simp
theorem brow_append (f : Bx) (B B' : List Bx) : brow f (B ++ B') = brow f B ++ brow f B' := by unfold brow; rw [List.map_append, List.filter_append]
theorem brow_succ {f g : Bx} {B : List Bx} {j : Nat} (h : B[j]? = some g) : brow f (B.take (j + 1)) = brow f (B.take j) ++ (if bempty (bmeet f g) then [] else [bmeet f g]) := by
  rw [List.take_add_one, h, Option.toList_some, brow_append]
  congr 1
  unfold brow
  cases hb : bempty (bmeet f g) <;> simp [hb]
theorem bopen_pre {A B : List Bx} {k j : Nat} {f : Bx} (h : A[k]? = some f) : ∃ R, bopen A B = (bopen (A.take k) B ++ brow f (B.take j)) ++ R := by
  refine ⟨brow f (B.drop j) ++ bopen (A.drop (k + 1)) B, ?_⟩
  have hA : bopen A B = bopen (A.take (k + 1)) B ++ bopen (A.drop (k + 1)) B := by rw [← bopen_append, List.take_append_drop]
  have hB : brow f B = brow f (B.take j) ++ brow f (B.drop j) := by rw [← brow_append, List.take_append_drop]
  rw [hA, bopen_succ h, hB]
  simp only [List.append_assoc]
theorem nopenO_bad {fs gs x y : List Ft} {r c : Bool} (hx : fparts fs r = some x) (hy : fparts gs c = some y) (h : rvalid (bopen (psel x false) (psel y true)) = false) : nopenO fs r gs c = none := by
  unfold nopenO
  rw [hx, hy]
  simp [h]
theorem nopenO_ok {fs gs x y : List Ft} {r c : Bool} (hx : fparts fs r = some x) (hy : fparts gs c = some y) (h : rvalid (bopen (psel x false) (psel y true)) = true) : nopenO fs r gs c = some (bopen (psel x false) (psel y true)) := by
  unfold nopenO
  rw [hx, hy]
  simp [h]
theorem nopenO_no {fs gs : List Ft} {r c : Bool} (h : fparts fs r = none ∨ fparts gs c = none) : nopenO fs r gs c = none := by
  unfold nopenO
  rcases h with h | h
  · rw [h]
  · rw [h]; cases fparts fs r <;> rfl
theorem rvalid_mem {L : List Bx} {z : Bx} (h : z ∈ L) (hz : bvalid z = false) : rvalid L = false := by
  rw [← Bool.not_eq_true]
  intro hv
  have := (rvalid_all hv).2 z h
  rw [hz] at this
  cases this
theorem rvalid_len {L : List Bx} (h : 400 < L.length) : rvalid L = false := by
  rw [← Bool.not_eq_true]
  intro hv
  have := (rvalid_all hv).1
  omega
theorem lit4_at (w : World) (a b c d : Value) (ty : TypeId) : SlAt 4 R4.enc (w.alloc (.cells #[a, b, c, d] ty)) (.slice (some ⟨w.heap.size, 0, none⟩) 1 1) [⟨a, b, c, d⟩] := by
  refine ⟨_, 1, rfl, by simp, by simp [maxLen], fun k x hk => ?_⟩
  match k, hk with
  | 0, hk =>
    cases hk
    refine ⟨w.heap.size, 0, rfl, by simp, fun j u hj => ?_⟩
    have := cellsNew w (R4.enc ⟨a, b, c, d⟩) ty j u hj
    rwa [Addr.add_lit] at this
  | k + 1, hk => simp at hk
set_option maxHeartbeats 4000000 in
set_option maxRecDepth 100000 in
theorem openedBy_any {lo lo' : Nat} (fs gs : List Ft) (r c : Bool) (v u : Value) (w : World) (ht : Tab w) (hs : Ifs lo w v fs) (hu : Ifs lo' w u gs) (hv : fvalid fs = true) (hg : fvalid gs = true) :
    Calls Tryz.prog 29 #[v, .bool r, u, .bool c] w fun e w' => ∃ za zn zc, e = .returned (.tuple #[.slice za zn zc, .bool (nopenO fs r gs c).isSome]) ∧ (∀ l, nopenO fs r gs c = some l → Iss 0 w' (.slice za zn zc) l) ∧ Below w.heap.size w w' := by
  obtain ⟨Oa, hOa⟩ : ∃ O, parts fs r = O := ⟨_, rfl⟩
  obtain ⟨Ob, hOb⟩ : ∃ O, parts gs c = O := ⟨_, rfl⟩
  have HOA := Lib.hid hOa
  have HOB := Lib.hid hOb
  have HVA := Lib.hid hv
  have HVB := Lib.hid hg
  have HFA := Lib.hid ((fparts_yes (r := r) hv).trans hOa)
  have HFB := Lib.hid ((fparts_yes (r := c) hg).trans hOb)
  obtain ⟨qa, hqa⟩ : ∃ q, Oa.isSome = q := ⟨_, rfl⟩
  obtain ⟨qb, hqb⟩ : ∃ q, Ob.isSome = q := ⟨_, rfl⟩
  have HQA := Lib.hid hqa
  have HQB := Lib.hid hqb
  have HS := Lib.hid hs
  have HU := Lib.hid hu
  have HT := Lib.hid ht
  clear hOa hOb hv hg hqa hqb hs hu ht
  go_enter Tryz.func29, Tryz.ntmps29
  go_wp2_with fail
  refine (partsOf_q HOA.out HQA.out HT.out HS.out HVA.out).mono ?_
  rintro e w1 ⟨ea, la, ka, da, ma, ja, rfl, ho1, hb1⟩
  obtain ⟨W1, hW1⟩ : ∃ W, w1.alloc (.cells #[.slice ea la ka, .slice da ma ja] 47) = W := ⟨_, rfl⟩
  have hal1 : Below w1.heap.size w1 W1 := by rw [← hW1]; exact (Below.refl _ _).alloc (Nat.le_refl _) _
  have HC1 := Lib.hid (show C2 W1 w1.heap.size (.slice ea la ka) (.slice da ma ja) by rw [← hW1]; exact C2.new _ _ _ _)
  have hwW1 := hb1.trans (hal1.mono hb1.size)
  have HP1 := Lib.hid (IssB.below ho1 hal1)
  clear ho1 hb1 hal1
  go_wp2_with fail
  refine (partsOf_q HOB.out HQB.out (HT.out.below hwW1) (HU.out.below hwW1) HVB.out).mono ?_
  rintro e w2 ⟨eb, lb, kb, db, mb, jb, rfl, ho2, hb2⟩
  obtain ⟨W2, hW2⟩ : ∃ W, w2.alloc (.cells #[.slice eb lb kb, .slice db mb jb] 47) = W := ⟨_, rfl⟩
  have hal2 : Below w2.heap.size w2 W2 := by rw [← hW2]; exact (Below.refl _ _).alloc (Nat.le_refl _) _
  have HC2 := Lib.hid (show C2 W2 w2.heap.size (.slice eb lb kb) (.slice db mb jb) by rw [← hW2]; exact C2.new _ _ _ _)
  have hb22 := hb2.trans (hal2.mono hb2.size)
  have hwW2 := hwW1.trans (hb22.mono hwW1.size)
  replace HP1 := Lib.hid (IssB.below HP1.out hb22)
  have HP2 := Lib.hid (IssB.below ho2 hal2)
  replace HC1 := Lib.hid (HC1.out.below hb22)
  have HTW := Lib.hid (HT.out.below hwW2)
  clear ho2 hb2 hal2 hb22 hwW1
  by_cases hqq : qa = true ∧ qb = true
  · obtain ⟨rfl, rfl⟩ := hqq
    obtain ⟨x, rfl⟩ : ∃ x, Oa = some x := Option.isSome_iff_exists.1 HQA.out
    obtain ⟨y, rfl⟩ : ∃ y, Ob = some y := Option.isSome_iff_exists.1 HQB.out
    have HX := Lib.hid (HP1.out x rfl).2
    have HY := Lib.hid (HP2.out y rfl).1
    have HAV := Lib.hid (psel_bv HFA.out false)
    have HBV := Lib.hid (psel_bv HFB.out true)
    have HBAD := Lib.hid (fun h => nopenO_bad HFA.out HFB.out h)
    have HOK := Lib.hid (fun h => nopenO_ok HFA.out HFB.out h)
    obtain ⟨A, hA⟩ : ∃ A, psel x false = A := ⟨_, rfl⟩
    obtain ⟨B, hB⟩ : ∃ B, psel y true = B := ⟨_, rfl⟩
    rw [hA] at HX HAV HBAD HOK
    rw [hB] at HY HBV HBAD HOK
    obtain ⟨-, g0, g1⟩ := HC1.out
    obtain ⟨hz2, g2, g3⟩ := HC2.out
    have HHG := Lib.hid g2
    obtain ⟨n, hn⟩ : ∃ n, A.length = n := ⟨_, rfl⟩
    obtain ⟨m, hm⟩ : ∃ m, B.length = m := ⟨_, rfl⟩
    have HN := Lib.hid hn
    have HM := Lib.hid hm
    obtain ⟨xa, xc, hxv, hxl, hxm⟩ := HX.out.form
    obtain ⟨rfl, rfl, rfl⟩ := Value.slice.inj hxv
    obtain ⟨ya, yc, hyv, hyl, hym⟩ := HY.out.form
    obtain ⟨rfl, rfl, rfl⟩ := Value.slice.inj hyv
    rw [hn] at HX hxl g1 hW1 ⊢
    rw [hm] at HY hyl g2 HHG hW2 ⊢
    unfold maxLen at hxm hym
    have hlt2 : w2.heap.size < W2.heap.size := HC2.out.1
    have HO0 := Lib.hid (show NX (fun _ => False) W2.heap.size W2 (.slice none 0 0) [] from ⟨[], World.ownsRow_nil _ _ _ _, All2.nil⟩)
    clear hA hB hn hm HC1 HC2 hxv hyv HP1 HP2
    go_wp2_with fail
    go_loopw [14, 42] (fun o i wr => ∃ k : Nat, k ≤ n ∧ i = .int .i64 k ∧ Hid (NX (fun _ => False) W2.heap.size wr o (bopen (A.take k) B)) ∧ Hid ((bopen (A.take k) B).length ≤ 400 ∧ ∀ z ∈ bopen (A.take k) B, bvalid z = true) ∧ Below W2.heap.size W2 wr) (fun _ i _ => n - (intOf i).toNat)
    case atStart => exact ⟨0, by omega, rfl, HO0, Lib.hid ⟨by simp [bopen], fun z hz => by simp [bopen] at hz⟩, Below.refl _ _⟩
    case round =>
      clear HO0 hW1 hW2
      obtain ⟨k, hk, rfl, HO, HG, hbr⟩ := hrel
      generalize wr = wo at *
      have hzr := hbr.size
      by_cases hkt : k < n
      · have j1 : (k : Int) < (n : Int) := by omega
        have j2 : (0 : Int) ≤ (k : Int) := by omega
        obtain ⟨f, hf⟩ : ∃ f, A[k]? = some f := ⟨_, List.getElem?_eq_getElem (by rw [HN.out]; exact hkt)⟩
        obtain ⟨b, o, v0, v1, v2, v3, rfl, hbl, c0, c1, c2, c3, hss⟩ := HX.out.at hf
        obtain ⟨a0, n0, p0, a1, n1, p1, a2, n2, p2, a3, n3, p3, rfl, rfl, rfl, rfl⟩ := sl4_form hss
        replace c0 := (hbr.cell (p := ⟨b, o + k * 4, none⟩) hbl).trans c0
        replace c1 := (hbr.cell (p := ⟨b, o + k * 4 + 1, none⟩) hbl).trans c1
        replace c2 := (hbr.cell (p := ⟨b, o + k * 4 + 2, none⟩) hbl).trans c2
        replace c3 := (hbr.cell (p := ⟨b, o + k * 4 + 3, none⟩) hbl).trans c3
        have HF := Lib.hid hf
        have HFV := Lib.hid (HAV.out f (List.mem_of_getElem? hf))
        obtain ⟨Wa, hWa⟩ : ∃ Wa, wo.alloc (.cells #[.slice a0 n0 p0, .slice a1 n1 p1, .slice a2 n2 p2, .slice a3 n3 p3] 77) = Wa := ⟨_, rfl⟩
        have hala : Below wo.heap.size wo Wa := by rw [← hWa]; exact (Below.refl _ _).alloc (Nat.le_refl _) _
        have HCA := Lib.hid (show C4 wo.heap.size Wa (.slice a0 n0 p0) (.slice a1 n1 p1) (.slice a2 n2 p2) (.slice a3 n3 p3) from ⟨by rw [← hWa]; simp, fun j v hj => by
          rw [← hWa]
          match j, hj with
          | 0, hj => cases hj; simp
          | 1, hj => cases hj; simp
          | 2, hj => cases hj; simp
          | 3, hj => cases hj; simp
          | j + 4, hj => simp at hj⟩)
        have hbA := hbr.trans (hala.mono hzr)
        have HSS := Lib.hid hss
        have HOA := Lib.hid (HO.out.below hala)
        have HNE := Lib.hid (fun (e : (_ : Value).ownBlock = some wo.heap.size) => Nat.lt_irrefl _ (HO.out.lt _ e).2)
        have HSU := Lib.hid (bopen_succ (B := B) hf)
        have g2A := (hbA.cell (p := ⟨w2.heap.size, 0, none⟩) hlt2).trans HHG.out
        clear hf hss
        go_wp2_with fail
        go_loopw [14, 49] (fun o i wr => ∃ j : Nat, j ≤ m ∧ i = .int .i64 j ∧ Hid (NX (fun _ => False) W2.heap.size wr o (bopen (A.take k) B ++ brow f (B.take j))) ∧ Hid ((bopen (A.take k) B ++ brow f (B.take j)).length ≤ 400 ∧ ∀ z ∈ bopen (A.take k) B ++ brow f (B.take j), bvalid z = true) ∧ Hid (C4 wo.heap.size wr (.slice a0 n0 p0) (.slice a1 n1 p1) (.slice a2 n2 p2) (.slice a3 n3 p3)) ∧ Hid (o.ownBlock ≠ some wo.heap.size) ∧ Below W2.heap.size W2 wr) (fun _ i _ => m - (intOf i).toNat)
        case atStart => exact ⟨0, by omega, rfl, Lib.hid (by simpa [brow] using HOA.out), Lib.hid (by simpa [brow] using HG.out), HCA, Lib.hid (fun e => HNE.out e), hbA⟩
        case round =>
          clear hWa HOA HNE
          obtain ⟨j, hj, rfl, HOJ, HGJ, HCJ, HNJ, hbj⟩ := hrel
          have HSJ := Lib.hid (HSS.out.mono (fun _ _ q => q.below hbj))
          have hzj := hbj.size
          have hCl := HCJ.out.1
          have k0 := HCJ.out.2 0 _ rfl
          have k1 := HCJ.out.2 1 _ rfl
          have k2 := HCJ.out.2 2 _ rfl
          have k3 := HCJ.out.2 3 _ rfl
          by_cases hjt : j < m
          · have j3 : (j : Int) < (m : Int) := by omega
            have j4 : (0 : Int) ≤ (j : Int) := by omega
            obtain ⟨g, hg⟩ : ∃ g, B[j]? = some g := ⟨_, List.getElem?_eq_getElem (by rw [HM.out]; exact hjt)⟩
            obtain ⟨b', o', u0, u1, u2, u3, rfl, hbl', d0, d1, d2, d3, huu⟩ := (HY.out.below hbj).at hg
            obtain ⟨x0, y0, z0, x1, y1, z1, x2, y2, z2, x3, y3, z3, rfl, rfl, rfl, rfl⟩ := sl4_form huu
            have HGG := Lib.hid hg
            have HGV := Lib.hid (HBV.out g (List.mem_of_getElem? hg))
            obtain ⟨Wb, hWb⟩ : ∃ Wb, wr.alloc (.cells #[.slice x0 y0 z0, .slice x1 y1 z1, .slice x2 y2 z2, .slice x3 y3 z3] 77) = Wb := ⟨_, rfl⟩
            have halb : Below wr.heap.size wr Wb := by rw [← hWb]; exact (Below.refl _ _).alloc (Nat.le_refl _) _
            have l0 : Wb.cell? ⟨wr.heap.size, 0, none⟩ = some (.slice x0 y0 z0) := by rw [← hWb]; simp
            have l1 : Wb.cell? ⟨wr.heap.size, 1, none⟩ = some (.slice x1 y1 z1) := by rw [← hWb]; simp
            have l2 : Wb.cell? ⟨wr.heap.size, 2, none⟩ = some (.slice x2 y2 z2) := by rw [← hWb]; simp
            have l3 : Wb.cell? ⟨wr.heap.size, 3, none⟩ = some (.slice x3 y3 z3) := by rw [← hWb]; simp
            have qb : wr.heap.size < Wb.heap.size := by rw [← hWb]; simp
            replace k0 := (halb.cell (p := ⟨wo.heap.size, 0, none⟩) hCl).trans k0
            replace k1 := (halb.cell (p := ⟨wo.heap.size, 1, none⟩) hCl).trans k1
            replace k2 := (halb.cell (p := ⟨wo.heap.size, 2, none⟩) hCl).trans k2
            replace k3 := (halb.cell (p := ⟨wo.heap.size, 3, none⟩) hCl).trans k3
            have hqa : wo.heap.size < Wb.heap.size := by omega
            have hbB := hbj.trans (halb.mono hzj)
            have HFS := Lib.hid (HSJ.out.mono (fun _ _ q => q.below halb))
            have HGS := Lib.hid (huu.mono (fun _ _ q => q.below halb))
            obtain ⟨M, hM⟩ : ∃ M, bmeet f g = M := ⟨_, rfl⟩
            obtain ⟨em, hem⟩ : ∃ em, (!bempty (bmeet f g)) = em := ⟨_, rfl⟩
            have HMM := Lib.hid hM
            have HEM := Lib.hid hem
            have HBS := Lib.hid (brow_succ (f := f) hg)
            have HTB := Lib.hid (HTW.out.below hbB)
            clear hg huu hM
            go_wp2_with fail
            clear hWb
            refine (touches_b HFS.out HGS.out HFV.out HGV.out hem).mono ?_
            rintro e w5 ⟨rfl, hb5⟩
            have hbb5 := halb.trans (hb5.mono halb.size)
            have hB5 := hbj.trans (hbb5.mono hzj)
            have m0 := (hb5.cell (p := ⟨wo.heap.size, 0, none⟩) hqa).trans k0
            have m1 := (hb5.cell (p := ⟨wo.heap.size, 1, none⟩) hqa).trans k1
            have m2 := (hb5.cell (p := ⟨wo.heap.size, 2, none⟩) hqa).trans k2
            have m3 := (hb5.cell (p := ⟨wo.heap.size, 3, none⟩) hqa).trans k3
            have s0 := (hb5.cell (p := ⟨wr.heap.size, 0, none⟩) qb).trans l0
            have s1 := (hb5.cell (p := ⟨wr.heap.size, 1, none⟩) qb).trans l1
            have s2 := (hb5.cell (p := ⟨wr.heap.size, 2, none⟩) qb).trans l2
            have s3 := (hb5.cell (p := ⟨wr.heap.size, 3, none⟩) qb).trans l3
            have HO5 := Lib.hid (HOJ.out.below hbb5)
            have HC5 := Lib.hid (HCJ.out.below hbb5)
            clear k0 k1 k2 k3 l0 l1 l2 l3 hem
            cases em
            · have he : bempty (bmeet f g) = true := by have := HEM.out; simpa using this
              have HE2 := Lib.hid (show brow f (B.take (j + 1)) = brow f (B.take j) by rw [HBS.out, he]; simp)
              clear he
              go_wp2
              go_roundw
              case rel => exact ⟨j + 1, by omega, by go_num, by rw [HE2.out]; exact HO5, by rw [HE2.out]; exact HGJ, HC5, HNJ, hB5⟩
              case measure => simp [intOf]; omega
            · have he : bempty (bmeet f g) = false := by have := HEM.out; simpa using this
              have HE2 := Lib.hid (show brow f (B.take (j + 1)) = brow f (B.take j) ++ [M] by rw [HBS.out, he, HMM.out]; simp)
              obtain ⟨q, hq⟩ : ∃ q, bvalid M = q := ⟨_, rfl⟩
              have HQ := Lib.hid hq
              clear he hq
              go_wp2_with fail
              refine (meet_r HMM.out HQ.out (HTB.out.below hb5) (HFS.out.mono (fun _ _ q => q.below hb5)) (HGS.out.mono (fun _ _ q => q.below hb5)) HFV.out HGV.out).mono ?_
              rintro e w6 ⟨r0, t0, i0, r1, t1, i1, r2, t2, i2, r3, t3, i3, rfl, hres, hb6⟩
              have hz6 := hb6.size
              have hB6 := hB5.trans (hb6.mono hB5.size)
              obtain ⟨W6, hW6⟩ : ∃ W6, w6.alloc (.cells #[.slice r0 t0 i0, .slice r1 t1 i1, .slice r2 t2 i2, .slice r3 t3 i3] 77) = W6 := ⟨_, rfl⟩
              have hal6 : Below w6.heap.size w6 W6 := by rw [← hW6]; exact (Below.refl _ _).alloc (Nat.le_refl _) _
              have l0 : W6.cell? ⟨w6.heap.size, 0, none⟩ = some (.slice r0 t0 i0) := by rw [← hW6]; simp
              have l1 : W6.cell? ⟨w6.heap.size, 1, none⟩ = some (.slice r1 t1 i1) := by rw [← hW6]; simp
              have l2 : W6.cell? ⟨w6.heap.size, 2, none⟩ = some (.slice r2 t2 i2) := by rw [← hW6]; simp
              have l3 : W6.cell? ⟨w6.heap.size, 3, none⟩ = some (.slice r3 t3 i3) := by rw [← hW6]; simp
              have hb66 := hb6.trans (hal6.mono hz6)
              have hB7 := hB5.trans (hb66.mono hB5.size)
              have hwW7 := hwW2.trans (hB7.mono hwW2.size)
              obtain ⟨oa, oc, hov⟩ := HO5.out.form
              obtain ⟨L, hL⟩ : ∃ L, bopen (A.take k) B ++ brow f (B.take j) = L := ⟨_, rfl⟩
              have HMEM := Lib.hid (show ∃ R, bopen A B = (L ++ [M]) ++ R by
                obtain ⟨R, hR⟩ := bopen_pre (B := B) (j := j + 1) HF.out
                exact ⟨R, by rw [hR, HE2.out, ← hL]; simp only [List.append_assoc]⟩)
              have HLL := Lib.hid hL
              rw [hL] at hov HO5 HGJ
              subst hov
              have HRES := Lib.hid hres
              clear m0 m1 m2 m3 s0 s1 s2 s3 hres hL
              cases q
              · have HNO := Lib.hid (HBAD.out (by obtain ⟨R, hR⟩ := HMEM.out; exact rvalid_mem (z := M) (by rw [hR]; simp) HQ.out))
                go_wp2
                go_ret2
                exact ⟨_, _, _, by rw [HNO.out]; rfl, fun l h => (by rw [HNO.out] at h; cases h), hwW7⟩
              · by_cases h400 : L.length = 400
                · have HNO := Lib.hid (HBAD.out (by obtain ⟨R, hR⟩ := HMEM.out; exact rvalid_len (by rw [hR]; simp; omega)))
                  have hq4 : ((L.length : Int) == 400) = true := by rw [h400]; rfl
                  clear h400
                  go_wp2
                  go_ret2
                  exact ⟨_, _, _, by rw [HNO.out]; rfl, fun l h => (by rw [HNO.out] at h; cases h), hwW7⟩
                · have hq4 : ((L.length : Int) == 400) = false := by simpa using (by omega : (L.length : Int) ≠ 400)
                  have hL4 := HGJ.out.1
                  have HO6 := Lib.hid (HO5.out.below hb66)
                  have hres := HRES.out rfl
                  have hal7 : Below W6.heap.size W6 (W6.alloc (.cells #[.slice r0 t0 i0, .slice r1 t1 i1, .slice r2 t2 i2, .slice r3 t3 i3] 77)) := (Below.refl _ _).alloc (Nat.le_refl _) _
                  have hown : ∀ z, (Value.slice oa L.length oc).ownBlock = some z → z < w5.heap.size := fun z hz => (HO5.out.lt z hz).2
                  obtain ⟨v8, w8, hrun, hG8, hgr8, hat8⟩ := nx_append (cs := [M]) (vx := .slice (some ⟨W6.heap.size, 0, none⟩) 1 1) 45 (HO6.out.below hal7) ⟨[⟨.slice r0 t0 i0, .slice r1 t1 i1, .slice r2 t2 i2, .slice r3 t3 i3⟩], SlFr.of (lit4_at W6 _ _ _ _ _), ⟨rfl, fun i x y hx hy => by
                    match i, hx, hy with
                    | 0, hx, hy =>
                      cases hx; cases hy
                      exact hres.mono (fun _ _ q => (SpV.highX (q.below (hal6.trans (hal7.mono hal6.size))) (fun z hz => hz.elim (fun e => hown z e.symm) (fun h => h.elim))))
                    | i + 1, hx, hy => simp at hx⟩⟩ (by simp; omega) (by have := hB7.size; simp; omega)
                  have hsz8 := hgr8.size
                  have hlow : ∀ z, (Value.slice oa L.length oc).ownBlock = some z → W2.heap.size ≤ z := fun z hz => (HO5.out.lt z hz).1
                  have hB8 : Below W2.heap.size W2 w8 := (hB7.trans (hal7.mono hB7.size)).grown hgr8 (by have := hB7.size; simp; omega) hlow
                  have hwz5 := hbb5.size
                  have hwz6 := hb66.size
                  have hz67 : (W6.alloc (.cells #[.slice r0 t0 i0, .slice r1 t1 i1, .slice r2 t2 i2, .slice r3 t3 i3] 77)).heap.size = W6.heap.size + 1 := by simp
                  have hne8 : ∀ p, p < wr.heap.size → some p ≠ (Value.slice oa L.length oc).ownBlock → w8.heap[p]? = wr.heap[p]? := fun p h1 h2 => (hgr8.block p (by omega) h2).trans (((hbb5.trans (hb66.mono hbb5.size)).trans (hal7.mono (by omega))).block p h1)
                  have HGN := Lib.hid (show (L ++ [M]).length ≤ 400 ∧ ∀ z ∈ L ++ [M], bvalid z = true from ⟨by simp; omega, fun z hz => by
                    rcases List.mem_append.1 hz with h | h
                    · exact HGJ.out.2 z h
                    · rw [List.mem_singleton.1 h]; exact HQ.out⟩)
                  have HG8 := Lib.hid hG8
                  have HJN := Lib.hid (show bopen (A.take k) B ++ brow f (B.take (j + 1)) = L ++ [M] by rw [HE2.out, ← List.append_assoc, HLL.out])
                  have HCN := Lib.hid (show C4 wo.heap.size w8 (.slice a0 n0 p0) (.slice a1 n1 p1) (.slice a2 n2 p2) (.slice a3 n3 p3) from ⟨by omega, fun i v hi => by
                    have h1 := HCJ.out.2 i v hi
                    exact (World.cell?_of_block (a := ⟨wo.heap.size, i, none⟩) (hne8 _ hCl (fun e => HNJ.out e.symm))).trans h1⟩)
                  have HNN := Lib.hid (show v8.ownBlock ≠ some wo.heap.size from fun e => by
                    rcases hat8 _ e with h | h
                    · exact HNJ.out h
                    · omega)
                  clear h400 hres hgr8 hat8 hG8
                  go_wp2_with (at_builtin; refine wpList_append_run rfl _ _ 45 rfl rfl rfl hrun ?_)
                  refine ⟨⟨j + 1, by omega, by go_num, by rw [HJN.out]; exact HG8, by rw [HJN.out]; exact HGN, HCN, HNN, hB8⟩, ?_⟩
                  simp [intOf]; omega
          · have HT2 := Lib.hid (show bopen (A.take (k + 1)) B = bopen (A.take k) B ++ brow f (B.take j) by rw [HSU.out, show B.take j = B from List.take_of_length_le (by rw [HM.out]; omega)])
            go_wp2
            go_roundw
            case rel => exact ⟨k + 1, by omega, by go_num, by rw [HT2.out]; exact HOJ, by rw [HT2.out]; exact HGJ, hbj⟩
            case measure => simp [intOf]; omega
      · have HFIN := Lib.hid (HOK.out (by
          have h := HG.out
          rw [List.take_of_length_le (by rw [HN.out]; omega)] at h
          unfold rvalid
          rw [Bool.and_eq_true, decide_eq_true_eq, List.all_eq_true]
          exact h))
        have HI := Lib.hid (show Iss 0 wo _ (bopen A B) by have h := HO.out.iss; rwa [List.take_of_length_le (by rw [HN.out]; omega)] at h)
        obtain ⟨ra, rc, hrv, -, -⟩ := HI.out.form
        subst hrv
        have hwF := hwW2.trans (hbr.mono hwW2.size)
        go_wp2
        go_ret2
        exact ⟨_, _, _, by rw [HFIN.out]; rfl, fun l h => (by rw [HFIN.out] at h; cases h; exact HI.out), hwF⟩
  · have HNO := Lib.hid (show nopenO fs r gs c = none by
      have h1 := HQA.out
      have h2 := HQB.out
      cases qa
      · exact nopenO_no (.inl (by rw [HFA.out]; exact Option.not_isSome_iff_eq_none.1 (by rw [h1]; simp)))
      · cases qb
        · exact nopenO_no (.inr (by rw [HFB.out]; exact Option.not_isSome_iff_eq_none.1 (by rw [h2]; simp)))
        · exact absurd ⟨rfl, rfl⟩ hqq)
    cases qa <;> cases qb <;> first | exact absurd ⟨rfl, rfl⟩ hqq | (clear hqq; go_wp2; go_ret2; exact ⟨_, _, _, by rw [HNO.out]; rfl, fun l h => (by rw [HNO.out] at h; cases h), hwW2⟩)
theorem nopen_eq {fs gs : List Ft} {r c : Bool} {O : Option (List Bx)} (h : nopenO fs r gs c = O) : nopen fs r gs c = O.getD [] := by unfold nopen; rw [h]
set_option maxHeartbeats 4000000 in
set_option maxRecDepth 100000 in
theorem implNewlyOpen_e {lo lo' : Nat} {fs gs : List Ft} {R : List Bx} {r c q : Bool} {u v : Value} {w : World} (hs : Fts lo w u fs) (hu : Fts lo' w v gs) (ht : Tab w) (h : nopen fs r gs c = R) (hq : (nopenO fs r gs c).isSome = q) :
    Calls Tryz.prog 11 #[u, .bool r, v, .bool c] w fun e w' => ∃ v', e = .returned (.tuple #[v', .bool q]) ∧ GBs w' w.heap.size w'.heap.size v' R ∧ Below w.heap.size w w' := by
  have HR := Lib.hid h
  have HQ := Lib.hid hq
  have HS := Lib.hid hs
  have HU := Lib.hid hu
  have HT := Lib.hid ht
  have HGD := Lib.hid (show (∀ z ∈ R, bvalid z = true) ∧ R.length ≤ 400 by rw [← h]; exact nopen_good fs r gs c)
  have HZ := Lib.hid (fun (hn : nopenO fs r gs c = none) => (show R = [] ∧ q = false from ⟨by rw [← HR.out, nopen_eq hn]; rfl, by rw [← HQ.out, hn]; rfl⟩))
  obtain ⟨fa, hfa⟩ : ∃ fa, fvalid fs = fa := ⟨_, rfl⟩
  obtain ⟨fb, hfb⟩ : ∃ fb, fvalid gs = fb := ⟨_, rfl⟩
  clear h hq hs hu ht
  go_enter Tryz.func11, Tryz.ntmps11
  cases fa
  · obtain ⟨rfl, rfl⟩ := HZ.out (nopenO_no (.inl (fparts_inv hfa)))
    go_wp2_with fail
    refine (implFV_b HS.out HT.out hfa).mono ?_
    rintro e w1 ⟨rfl, hb1⟩
    go_wp2
    go_ret2
    exact ⟨_, rfl, GBs.nil _ hb1.size, hb1⟩
  · go_wp2_with fail
    refine (implFV_b HS.out HT.out hfa).mono ?_
    rintro e w1 ⟨rfl, hb1⟩
    cases fb
    · obtain ⟨rfl, rfl⟩ := HZ.out (nopenO_no (.inr (fparts_inv hfb)))
      go_wp2_with fail
      refine (implFV_b (HU.out.below hb1) (HT.out.below hb1) hfb).mono ?_
      rintro e w2 ⟨rfl, hb2⟩
      have hw2 := hb1.trans (hb2.mono hb1.size)
      go_wp2
      go_ret2
      exact ⟨_, rfl, GBs.nil _ hw2.size, hw2⟩
    · have HVA := Lib.hid hfa
      have HVB := Lib.hid hfb
      go_wp2_with fail
      refine (implFV_b (HU.out.below hb1) (HT.out.below hb1) hfb).mono ?_
      rintro e w2 ⟨rfl, hb2⟩
      have hw2 := hb1.trans (hb2.mono hb1.size)
      clear hfa hfb hb1 hb2
      go_wp2_with fail
      refine (flatsOf_any fs u _ (HS.out.below hw2) (fvalid_four HVA.out) (fvalid_len HVA.out)).mono ?_
      rintro e w3 ⟨z3, rfl, ho3, hb3⟩
      have hw3 := hw2.trans (hb3.mono hw2.size)
      have HO3 := Lib.hid ho3
      clear hb3 ho3
      go_wp2_with fail
      refine (flatsOf_any gs v _ (HU.out.below hw3) (fvalid_four HVB.out) (fvalid_len HVB.out)).mono ?_
      rintro e w4 ⟨z4, rfl, ho4, hb4⟩
      have hw4 := hw3.trans (hb4.mono hw3.size)
      replace HO3 := Lib.hid (HO3.out.below hb4)
      have HO4 := Lib.hid ho4
      clear hb4 ho4
      go_wp2_with fail
      refine (openedBy_any fs gs r c z3 z4 w4 (HT.out.below hw4) HO3.out HO4.out HVA.out HVB.out).mono ?_
      obtain ⟨O, hO⟩ : ∃ O, nopenO fs r gs c = O := ⟨_, rfl⟩
      have HO := Lib.hid hO
      rw [hO]
      rintro e w5 ⟨za, zn, zc, rfl, hres, hb5⟩
      have hw5 := hw4.trans (hb5.mono hw4.size)
      have HRES := Lib.hid hres
      clear hb5 hres hO
      cases O with
      | none =>
        obtain ⟨rfl, rfl⟩ := HZ.out HO.out
        rw [show (none : Option (List Bx)).isSome = false from rfl]
        go_wp2
        go_ret2
        exact ⟨_, rfl, GBs.nil _ hw5.size, hw5⟩
      | some l =>
        obtain rfl : l = R := by rw [← HR.out, nopen_eq HO.out]; rfl
        have hq0 : q = true := by rw [← HQ.out, HO.out]; rfl
        subst hq0
        have hz := HRES.out l rfl
        rw [show (some l : Option (List Bx)).isSome = true from rfl]
        go_wp2_with fail
        refine (boxesOf_own l _ _ hz (by have := HGD.out.2; omega) (fun k b hb j xs hx => by have := bvalid_lens (HGD.out.1 b (List.mem_of_getElem? hb)) j xs hx; omega)).mono ?_
        rintro e w6 ⟨v6, rfl, ho6, hb6⟩
        have hw6 := hw5.trans (hb6.mono hw5.size)
        have HO6 := Lib.hid (OwnG.low ho6 hw5.size)
        clear ho6 hb6 hz
        go_wp2
        go_ret2
        exact ⟨_, rfl, HO6.out, hw6⟩
/-- All but block g is as it was. -/
def KG (g : Nat) (w w' : World) : Prop := w.heap.size ≤ w'.heap.size ∧ ∀ k, k < w.heap.size → k ≠ g → w'.heap[k]? = w.heap[k]?
theorem KG.refl (g : Nat) (w : World) : KG g w w := ⟨Nat.le_refl _, fun _ _ _ => rfl⟩
theorem KG.below {g : Nat} {w w1 w2 : World} (h : KG g w w1) (hb : Below w1.heap.size w1 w2) : KG g w w2 := ⟨Nat.le_trans h.1 hb.size, fun k k1 k2 => (hb.block k (Nat.lt_of_lt_of_le k1 h.1)).trans (h.2 k k1 k2)⟩
theorem KG.grown {g : Nat} {w w1 w2 : World} {o : Option Nat} (h : KG g w w1) (hg : w1.grownBy w2 o) (ho : ∀ z, o = some z → z = g ∨ w.heap.size ≤ z) : KG g w w2 := ⟨Nat.le_trans h.1 hg.size, fun k k1 k2 => (hg.block k (Nat.lt_of_lt_of_le k1 h.1) (fun e => by
  rcases ho k e.symm with h | h
  · exact k2 h
  · omega)).trans (h.2 k k1 k2)⟩
theorem BxsV.keepG {g : Nat} {w w' : World} {v : Value} {bs : List Bx} (h : BxsV (fun k => k = g) w v bs) (hk : KG g w w') : BxsV (fun _ => False) w' v bs := h.keep hk.1 (fun k k1 k2 => ⟨hk.2 k k1 k2, fun e => e⟩)
theorem SlV.away {α : Type} {sz : Nat} {enc : α → List Value} {w : World} {v : Value} {xs : List α} {g lo : Nat} (h : SlFr lo sz enc w v xs) (hsz : ∀ x, enc x ≠ []) (hg : ∀ o, w.cell? ⟨g, o, none⟩ = none) : SlV (fun k => k = g) sz enc w v xs := by
  refine ⟨h.mono (Nat.zero_le _), fun q n c e hne hp => ?_⟩
  obtain ⟨a, cap, rfl, h1, h2, hx⟩ := h
  obtain ⟨x, hx0⟩ : ∃ x, xs[0]? = some x := ⟨_, List.getElem?_eq_getElem (List.length_pos_iff.2 hne)⟩
  obtain ⟨b, o, ha, h3, h4, hc⟩ := hx 0 x hx0
  subst ha
  obtain ⟨e1, -, -⟩ := Value.slice.inj e
  cases e1
  obtain ⟨y, hy⟩ : ∃ y, (enc x)[0]? = some y := ⟨_, List.getElem?_eq_getElem (List.length_pos_iff.2 (hsz x))⟩
  have h5 := hc 0 y hy
  simp only at hp
  rw [hp, hg] at h5
  cases h5
theorem Bxs.away {w : World} {v : Value} {bs : List Bx} {g lo : Nat} (h : Bxs lo w v bs) (hg : ∀ o, w.cell? ⟨g, o, none⟩ = none) : BxsV (fun k => k = g) w v bs := by
  obtain ⟨vs, h1, h2⟩ := h
  refine ⟨vs, SlV.away h1 (fun _ => by simp [enc1]) hg, h2.mono (fun r b h3 => ?_)⟩
  obtain ⟨us, h4, h5⟩ := h3
  exact ⟨us, SlV.away h4 (fun _ => by simp [enc1]) hg, h5.mono (fun _ _ h6 => (SlV.away h6 (fun _ => by simp [Sp.enc]) hg : SlV _ 2 Sp.enc w _ _))⟩
theorem l10Meet_v {lo lo' : Nat} {a b c : Bx} {u v : Value} {w : World} (h : bmeet a b = c) (hs : Rws lo w u a) (ht : Rws lo' w v b) (ha : bvalid a = true) (hb : bvalid b = true) :
    Calls Tryz.prog 32 #[.agg #[u], .agg #[v]] w fun e w' => ∃ v', e = .returned (.agg #[v']) ∧ Rws w.heap.size w' v' c ∧ Below w.heap.size w w' := by
  subst h
  refine (l10Meet_any a b u v w hs ht (bvalid_four ha).1 (bvalid_four hb).1 (bvalid_len2 ha) (bvalid_len2 hb)).mono ?_
  rintro e w' ⟨v', rfl, h1, h2⟩
  exact ⟨v', rfl, GRw.rws h1, h2⟩
theorem bx_append1h {X : Nat → Prop} {lo : Nat} {w : World} {v s : Value} {bs : List Bx} {b : Bx} (ty : TypeId) (ho : BxX X lo w v bs) (hs : RwV (fun k => some k = v.ownBlock ∨ X k) w s b) (hb : bs.length ≤ 1000000) (hlo : lo ≤ w.heap.size) :
    ∃ v' w', (Builtin.append_ #[30, 30] ty #[v, .slice (some ⟨w.heap.size, 0, none⟩) 1 1]).run Tryz.prog (w.alloc (.cells #[s] 68)) = .ok v' w' ∧ BxX X lo w' v' (bs ++ [b]) ∧ (∀ z, v'.ownBlock = some z → v.ownBlock = some z ∨ z = (w.alloc (.cells #[s] 68)).heap.size) ∧ (w.alloc (.cells #[s] 68)).grownBy w' v.ownBlock := by
  obtain ⟨i0, hi, hy0, hy1, hy2⟩ := info_parts infoBx
  have hal : Below w.heap.size w (w.alloc (.cells #[s] 68)) := (Below.refl _ _).alloc (Nat.le_refl _) _
  have ho' := ho.below hal
  obtain ⟨vs, g1, g2⟩ := ho
  obtain ⟨a, c, hf, -, -⟩ := hs.rws.form
  have e1 := g2.1
  obtain ⟨v', w', hrun, hown, hgr, hat⟩ := own_append_all (sz := 1) (enc := enc1) (by omega) (fun _ => rfl) (P := Tryz.prog) (w := w.alloc (.cells #[s] 68)) 30 ty 68 i0 _ 24 Tryz.underlying30 hi hy0 hy1 hy2 rfl (zs := [s]) (by rw [hf]; simp [Value.oneCell']) (OwnSl.kept g1 hal) (litBx_at w s 68) (by simp; omega) (by simp only [maxLen, List.length_singleton]; omega) (Nat.le_trans hlo hal.size)
  refine ⟨v', w', hrun, ?_, hat, hgr⟩
  exact BxX.push (H := (w.alloc (.cells #[s] 68)).heap.size) (w := w.alloc (.cells #[s] 68)) (g2.mono (fun _ _ g => g.below hal)) ((All2.nil).snoc (hs.below hal)) (grown_self hgr) hat (Nat.le_refl _) hown
theorem brow_len (f : Bx) (B : List Bx) : (brow f B).length ≤ B.length := by
  unfold brow
  have := List.length_filter_le (fun m => !bempty m) (B.map (bmeet f))
  rwa [List.length_map] at this
theorem bopen_len : ∀ (A B : List Bx), (bopen A B).length ≤ A.length * B.length
  | [], B => by simp [bopen]
  | a :: A, B => by
    have h1 := bopen_len A B
    have h2 := brow_len a B
    have h3 : bopen (a :: A) B = brow a B ++ bopen A B := by unfold bopen brow; rw [List.flatMap_cons]
    rw [h3, List.length_append, List.length_cons, Nat.succ_mul]
    omega
set_option maxHeartbeats 8000000 in
set_option maxRecDepth 100000 in
theorem specNewlyOpen_e {lo lo' : Nat} {fs gs : List Ft} {R : List Bx} {r c q : Bool} {u v : Value} {w : World} (hs : Fts lo w u fs) (hu : Fts lo' w v gs) (hN : ftN fs ≤ 1048576) (hN2 : ftN gs ≤ 1048576) (h : nopen fs r gs c = R) (hq : (nopenO fs r gs c).isSome = q) :
    Calls Tryz.prog 12 #[u, .bool r, v, .bool c] w fun e w' => ∃ v', e = .returned (.tuple #[v', .bool q]) ∧ Bxs 0 w' v' R ∧ Below w.heap.size w w' := by
  have HR := Lib.hid h
  have HQ := Lib.hid hq
  have HZ := Lib.hid (fun (hn : nopenO fs r gs c = none) => (show R = [] ∧ q = false from ⟨by rw [← HR.out, nopen_eq hn]; rfl, by rw [← HQ.out, hn]; rfl⟩))
  have HU := Lib.hid hu
  have HNN := Lib.hid (And.intro hN hN2)
  obtain ⟨qx, hqx⟩ : ∃ b, (fparts fs r).isSome = b := ⟨_, rfl⟩
  obtain ⟨qy, hqy⟩ : ∃ b, (fparts gs c).isSome = b := ⟨_, rfl⟩
  have HQX := Lib.hid hqx
  have HQY := Lib.hid hqy
  obtain ⟨A, hA⟩ : ∃ A, fpart fs r false = A := ⟨_, rfl⟩
  obtain ⟨B, hB⟩ : ∃ B, fpart gs c true = B := ⟨_, rfl⟩
  have HAV := Lib.hid (show BV2 A by rw [← hA]; exact (fpart_good fs r _).1)
  have HBV := Lib.hid (show BV2 B by rw [← hB]; exact (fpart_good gs c _).1)
  have HA := Lib.hid hA
  have HB := Lib.hid hB
  have hn4 : A.length ≤ 400 := by rw [← hA]; exact (fpart_good fs r _).2
  have hm4 : B.length ≤ 400 := by rw [← hB]; exact (fpart_good gs c _).2
  clear h hq hu hN2 hqx hqy hA hB
  go_enter Tryz.func12, Tryz.ntmps12
  go_wp2_with fail
  refine (ownFlats_any fs _ _ hs hN).mono ?_
  rintro e w1 ⟨v1, rfl, ho1, hb1⟩
  have HS1 := Lib.hid ho1.fts
  clear hs ho1
  go_wp2_with fail
  refine (ownFlats_any gs _ _ (HU.out.below hb1) HNN.out.2).mono ?_
  rintro e w2 ⟨v2, rfl, ho2, hb2⟩
  have hw2 := hb1.trans (hb2.mono hb1.size)
  have hal : Below w2.heap.size w2 (w2.alloc (.cells #[] 68)) := (Below.refl _ _).alloc (Nat.le_refl _) _
  have HS2 := Lib.hid ((HS1.out.below hb2).below hal)
  have HU2 := Lib.hid (ho2.fts.below hal)
  have hwA := hw2.trans (hal.mono hw2.size)
  have HO0 := Lib.hid (show BxX (fun _ => False) w2.heap.size (w2.alloc (.cells #[] 68)) (.slice (some ⟨w2.heap.size, 0, none⟩) 0 0) [] from ⟨[], litOwn 68 1 enc1 (Nat.le_refl _), All2.nil⟩)
  have HE0 := Lib.hid (show ∀ o, (w2.alloc (.cells #[] 68)).cell? ⟨w2.heap.size, o, none⟩ = none from fun o => by simp)
  have hzA : (w2.alloc (.cells #[] 68)).heap.size = w2.heap.size + 1 := by simp
  clear hb1 hb2 ho2 hal HS1
  go_wp2_with fail
  obtain ⟨WA, hWA⟩ : ∃ W, w2.alloc (.cells #[] 68) = W := ⟨_, rfl⟩
  rw [hWA] at HS2 HU2 hwA HO0 HE0 hzA ⊢
  clear hWA
  refine (specFlatParts_e HS2.out HNN.out.1 HA.out HQX.out).mono ?_
  rintro e w3 ⟨z3, rfl, ho3, hb3⟩
  have HX3 := Lib.hid ho3
  clear ho3
  go_wp2_with fail
  refine (specFlatParts_e (HU2.out.below hb3) HNN.out.2 HB.out HQY.out).mono ?_
  rintro e w4 ⟨z4, rfl, ho4, hb4⟩
  have hb34 := hb3.trans (hb4.mono hb3.size)
  have hz34 := hb34.size
  have hw4 := hwA.trans (hb34.mono hwA.size)
  have HX4 := Lib.hid (HX3.out.below hb4)
  have HY4 := Lib.hid ho4
  have HO4 := Lib.hid (HO0.out.below hb34)
  clear ho4 hb3 hb4 HX3 HS2 HU2 HO0
  by_cases hqq : qx = true ∧ qy = true
  · obtain ⟨rfl, rfl⟩ := hqq
    have HE4 := Lib.hid (show ∀ o, w4.cell? ⟨w2.heap.size, o, none⟩ = none from fun o => (hb34.cell (p := ⟨w2.heap.size, o, none⟩) (by simp only; omega)).trans (HE0.out o))
    have HXV := Lib.hid (HX4.out.away HE4.out)
    have HYV := Lib.hid (HY4.out.away HE4.out)
    have HRE := Lib.hid (show nopenO fs r gs c = if rvalid (bopen A B) then some (bopen A B) else none by
      obtain ⟨x, hx⟩ := Option.isSome_iff_exists.1 HQX.out
      obtain ⟨y, hy⟩ := Option.isSome_iff_exists.1 HQY.out
      unfold nopenO
      rw [hx, hy, ← HA.out, ← HB.out, fpart_yes hx, fpart_yes hy])
    obtain ⟨xa, xc, rfl, -, -⟩ := HX4.out.form
    obtain ⟨ya, yc, rfl, -, -⟩ := HY4.out.form
    obtain ⟨n, hn⟩ : ∃ n, A.length = n := ⟨_, rfl⟩
    obtain ⟨m, hm⟩ : ∃ m, B.length = m := ⟨_, rfl⟩
    have HNA := Lib.hid hn
    have HMB := Lib.hid hm
    rw [hn] at HXV hn4 ⊢
    rw [hm] at HYV hm4 ⊢
    have hg24 : w2.heap.size < w4.heap.size := by omega
    clear hn hm HX4 HY4 HE4 HE0 hb34
    go_wp2_with fail
    go_loopw [10, 15, 16, 17] (fun o i _ _ wr => ∃ k : Nat, k ≤ n ∧ i = .int .i64 k ∧ Hid (BxX (fun _ => False) w2.heap.size wr o (bopen (A.take k) B)) ∧ Hid (∀ z, o.ownBlock = some z → z = w2.heap.size ∨ w4.heap.size ≤ z) ∧ Hid (KG w2.heap.size w4 wr) ∧ Below w.heap.size w wr) (fun _ i _ _ _ => n - (intOf i).toNat)
    case atStart => exact ⟨0, by omega, rfl, Lib.hid (by simpa [bopen] using HO4.out), Lib.hid (fun z hz => by simp [Value.ownBlock] at hz; exact .inl hz.symm), Lib.hid (KG.refl _ _), hw4⟩
    case round =>
      clear HO4
      obtain ⟨k, hk, rfl, HO, HNO, hKK, hbr⟩ := hrel
      generalize wr = wo at *
      by_cases hkt : k < n
      · have j1 : (k : Int) < (n : Int) := by omega
        have j2 : (0 : Int) ≤ (k : Int) := by omega
        obtain ⟨f, hf⟩ : ∃ f, A[k]? = some f := ⟨_, List.getElem?_eq_getElem (by rw [HNA.out]; exact hkt)⟩
        have HF := Lib.hid hf
        have HFV := Lib.hid (HAV.out f (List.mem_of_getElem? hf))
        have HSU := Lib.hid (bopen_succ (B := B) hf)
        clear hf
        go_wp2_with fail
        go_loopw [10, 16, 17] (fun o i _ wr => ∃ j : Nat, j ≤ m ∧ i = .int .i64 j ∧ Hid (BxX (fun _ => False) w2.heap.size wr o (bopen (A.take k) B ++ brow f (B.take j))) ∧ Hid (∀ z, o.ownBlock = some z → z = w2.heap.size ∨ w4.heap.size ≤ z) ∧ Hid (KG w2.heap.size w4 wr) ∧ Below w.heap.size w wr) (fun _ i _ _ => m - (intOf i).toNat)
        case atStart => exact ⟨0, by omega, rfl, Lib.hid (by simpa [brow] using HO.out), HNO, hKK, hbr⟩
        case round =>
          clear HO HNO hKK
          obtain ⟨j, hj, rfl, HOJ, HNJ, hKJ, hbj⟩ := hrel
          have hzj := hbj.size
          by_cases hjt : j < m
          · have j3 : (j : Int) < (m : Int) := by omega
            have j4 : (0 : Int) ≤ (j : Int) := by omega
            obtain ⟨g, hy⟩ : ∃ g, B[j]? = some g := ⟨_, List.getElem?_eq_getElem (by rw [HMB.out]; exact hjt)⟩
            have HXJ := Lib.hid (HXV.out.keepG hKJ.out).bxs
            have HYJ := Lib.hid (HYV.out.keepG hKJ.out).bxs
            obtain ⟨b1, o1, sv, rfl, hb1l, d1, hsv⟩ := HXJ.out.at HF.out
            obtain ⟨b2, o2, tv, rfl, hb2l, d2, htv⟩ := HYJ.out.at hy
            have HSF := Lib.hid hsv
            have HSG := Lib.hid htv
            have HG := Lib.hid hy
            have HGV := Lib.hid (HBV.out g (List.mem_of_getElem? hy))
            obtain ⟨M, hM⟩ : ∃ M, bmeet f g = M := ⟨_, rfl⟩
            have HM := Lib.hid hM
            have HLN := Lib.hid (show M = [] ∨ 2 ≤ M.length from .inr (by rw [← hM, bmeet_len (bvalid_iff.1 HFV.out).1 (bvalid_iff.1 HGV.out).1]; omega))
            have HBS := Lib.hid (brow_succ (f := f) hy)
            obtain ⟨oa, oc, rfl⟩ := HOJ.out.form
            have HOL := Lib.hid (fun q (hq : some q = (Value.slice oa (bopen (A.take k) B ++ brow f (B.take j)).length oc).ownBlock) => by
              obtain ⟨vs, g1, _⟩ := HOJ.out
              exact World.ownsRow.lt g1 q hq.symm)
            obtain ⟨L, hL⟩ : ∃ L, bopen (A.take k) B ++ brow f (B.take j) = L := ⟨_, rfl⟩
            have HLL := Lib.hid hL
            rw [hL] at HOJ HOL HNJ ⊢
            have hLn : L.length ≤ 200000 := by
              have h1 := bopen_len (A.take k) B
              have h2 := brow_len f (B.take j)
              rw [← hL, List.length_append]
              have h3 : (A.take k).length ≤ 400 := by rw [List.length_take]; omega
              have h4 : (B.take j).length ≤ 400 := by rw [List.length_take]; omega
              have h5 : B.length ≤ 400 := by rw [HMB.out]; exact hm4
              have h6 : (A.take k).length * B.length ≤ 400 * 400 := Nat.mul_le_mul h3 h5
              omega
            clear hy hsv htv hM hL
            go_wp2_with fail
            refine wp_region_turn2 (W := wr) 10 [BIs (.slice (some ⟨b1, o1, none⟩) n xc), BIs (.int .i64 (k : Int)), BIs (.pointer (some ⟨b1, o1 + k, none⟩)), BIs (.agg #[sv]), BIs (.slice (some ⟨b2, o2, none⟩) m yc), BIs (.int .i64 (j : Int)), BIs (.pointer (some ⟨b2, o2 + j, none⟩)), BIs (.agg #[tv]), (fun w v => ∃ z, v = .agg #[z] ∧ RwV (fun q => some q = (Value.slice oa L.length oc).ownBlock ∨ False) w z M), (BP wr)] (bof [BIs (.slice (some ⟨b1, o1, none⟩) n xc), BIs (.int .i64 (k : Int)), BIs (.pointer (some ⟨b1, o1 + k, none⟩)), BIs (.agg #[sv]), BIs (.slice (some ⟨b2, o2, none⟩) m yc), BIs (.int .i64 (j : Int)), BIs (.pointer (some ⟨b2, o2 + j, none⟩)), BIs (.agg #[tv]), (fun _ _ => True), (BQV (fun q => some q = (Value.slice oa L.length oc).ownBlock ∨ False) M wr), (fun _ _ => True)]) (by kernel_rfl) (by decide) (fun u => by simp only [frU, Act.put, List.setIfInBounds_toArray, List.set_cons_succ, List.set_cons_zero, Nat.zero_add, Nat.reduceAdd]; exact rfl) (by kernel_rfl) ⟨bst_is _, bst_is _, bst_is _, bst_is _, bst_is _, bst_is _, bst_is _, bst_is _, (fun _ _ _ hb ⟨z, h1, h2⟩ => ⟨z, h1, h2.below hb⟩), (bst_bp _), trivial⟩ ?_ ?_; (exact ⟨stT rfl (by decide) (by kernel_rfl) (fun u w3 hC hd hI Q K hK => by (go_step; exact hK _ _ rfl (Below.refl _ _) rfl)), stT rfl (by decide) (by kernel_rfl) (fun u w3 hC hd hI Q K hK => by (go_step; exact hK _ _ rfl (Below.refl _ _) rfl)), stT rfl (by decide) (by kernel_rfl) (fun u w3 hC hd hI Q K hK => by (have hu := bis (w := w3) (hd 0 rfl); rw [hu] at hK ⊢; clear hu; have hu := bis (w := w3) (hd 1 rfl); rw [hu] at hK ⊢; clear hu; go_step; exact hK _ _ rfl (Below.refl _ _) rfl)), stT rfl (by decide) (by kernel_rfl) (fun u w3 hC hd hI Q K hK => by (have hu := bis (w := w3) (hd 2 rfl); rw [hu] at hK ⊢; clear hu; have z0 := (hC.cell (p := ⟨b1, o1 + k, none⟩) hb1l).trans d1; go_step; exact hK _ _ rfl (Below.refl _ _) rfl)), stT rfl (by decide) (by kernel_rfl) (fun u w3 hC hd hI Q K hK => by (go_step; exact hK _ _ rfl (Below.refl _ _) rfl)), stT rfl (by decide) (by kernel_rfl) (fun u w3 hC hd hI Q K hK => by (go_step; exact hK _ _ rfl (Below.refl _ _) rfl)), stT rfl (by decide) (by kernel_rfl) (fun u w3 hC hd hI Q K hK => by (have hu := bis (w := w3) (hd 4 rfl); rw [hu] at hK ⊢; clear hu; have hu := bis (w := w3) (hd 5 rfl); rw [hu] at hK ⊢; clear hu; go_step; exact hK _ _ rfl (Below.refl _ _) rfl)), stT rfl (by decide) (by kernel_rfl) (fun u w3 hC hd hI Q K hK => by (have hu := bis (w := w3) (hd 6 rfl); rw [hu] at hK ⊢; clear hu; have z0 := (hC.cell (p := ⟨b2, o2 + j, none⟩) hb2l).trans d2; go_step; exact hK _ _ rfl (Below.refl _ _) rfl)), stT rfl (by decide) (by kernel_rfl) (fun u w3 hC hd hI Q K hK => by (have hu := bis (w := w3) (hd 3 rfl); rw [hu] at hK ⊢; clear hu; have hu := bis (w := w3) (hd 7 rfl); rw [hu] at hK ⊢; clear hu; go_step; refine (l10Meet_v HM.out (HSF.out.below hC) (HSG.out.below hC) HFV.out HGV.out).mono ?_; rintro e w4 ⟨z4, rfl, ho4, hb4⟩; exact hK _ _ rfl hb4 ⟨z4, rfl, RwV.high ho4 (fun q hq => hq.elim (fun e => Nat.lt_of_lt_of_le (HOL.out q e).2 hC.size) (fun e => e.elim))⟩)), stT rfl (by decide) (by kernel_rfl) (fun u w3 hC hd hI Q K hK => by (go_step; exact hK _ _ rfl ((Below.refl _ _).alloc (Nat.le_refl _) _) (BP.new _ hC.size))), stTt rfl (by decide) (fun u w3 hC hd Q K hK => by (dsimp only at hK ⊢; obtain ⟨qq, hu, hq1, hq2, hqf, hqo⟩ := hd 9 rfl; rw [hu] at hK ⊢; have hkeep := hu; clear hu; obtain ⟨z, hu, hz⟩ := hd 8 rfl; rw [hu] at hK ⊢; clear hu; have e0 := hqf 0; have e1 := hqo.1; obtain ⟨a0, c0, rfl, -, -⟩ := hz.rws.form; go_step; have hQ := BQV.mk1 hC hq1 hq2 hqf hqo HLN.out hz; refine hK _ _ rfl (fun j hj h => ?_) ?_; (match j, hj, h with | 0, _, h => exact h | 1, _, h => exact h | 2, _, h => exact h | 3, _, h => exact h | 4, _, h => exact h | 5, _, h => exact h | 6, _, h => exact h | 7, _, h => exact h | 8, _, _ => exact trivial | 9, _, h => exact (show BQV (fun q => some q = (Value.slice oa L.length oc).ownBlock ∨ False) M wr _ _ by rw [hkeep]; exact hQ) | j + 10, hj, _ => exact absurd hj (by omega)); exact trivial)), trivial⟩); intro u w3 hF; rw [bis (w := w3) (hF 0 (by decide))]; rw [bis (w := w3) (hF 1 (by decide))]; rw [bis (w := w3) (hF 2 (by decide))]; rw [bis (w := w3) (hF 3 (by decide))]; rw [bis (w := w3) (hF 4 (by decide))]; rw [bis (w := w3) (hF 5 (by decide))]; rw [bis (w := w3) (hF 6 (by decide))]; rw [bis (w := w3) (hF 7 (by decide))]; have h8 := hF 9 (by decide); generalize u 9 = v8 at *; generalize u 8 = vx8 at *; generalize u 10 = vx10 at *; clear hF
            obtain ⟨q9, a9, n9, p9, rfl, hq1, hq2, g0, gf, hr3, hb3⟩ := h8
            have HR3 := Lib.hid hr3
            have hz3 := hb3.size
            obtain ⟨em, hem⟩ : ∃ em, bempty M = em := ⟨_, rfl⟩
            have HEM := Lib.hid hem
            clear hr3 d1 d2
            go_wp2_with fail
            refine (l10Empty_b HR3.out.rws hem).mono ?_
            rintro e w4' ⟨rfl, hb4⟩
            have hb44 := hb3.trans (hb4.mono hz3)
            have hz44 := hb44.size
            have HR4 := Lib.hid (HR3.out.below hb4)
            have k0 := (hb4.cell (p := ⟨q9, 0, none⟩) hq2).trans g0
            have hK4 := Lib.hid (hKJ.out.below hb44)
            have hw4' := hbj.trans (hb44.mono hbj.size)
            clear hem g0 gf
            have HO4' := Lib.hid (HOJ.out.below hb44)
            cases em
            · have HE2 := Lib.hid (show bopen (A.take k) B ++ brow f (B.take (j + 1)) = L ++ [M] by rw [HBS.out, HM.out, HEM.out, ← List.append_assoc, HLL.out]; rfl)
              obtain ⟨v7, w7, hrun, hG, hat, hgr⟩ := bx_append1h 30 HO4'.out HR4.out (by omega) (by have := hKJ.out.1; omega)
              have hal9 : Below w4'.heap.size w4' (w4'.alloc (.cells #[.slice a9 n9 p9] 68)) := (Below.refl _ _).alloc (Nat.le_refl _) _
              have hzK := hK4.out.1
              have hw2s := hw2.size
              have HG7 := Lib.hid (show BxX (fun _ => False) w2.heap.size w7 v7 (bopen (A.take k) B ++ brow f (B.take (j + 1))) by rw [HE2.out]; exact hG)
              have HN7 := Lib.hid (fun z (hz : v7.ownBlock = some z) => (show z = w2.heap.size ∨ w4.heap.size ≤ z from by
                rcases hat z hz with h | h
                · exact HNJ.out z h
                · simp at h; omega))
              have HK7 := Lib.hid ((hK4.out.below hal9).grown hgr HNJ.out)
              have hw7 : Below w.heap.size w w7 := (hw4'.trans (hal9.mono hw4'.size)).grown hgr (by have := hw4'.size; simp; omega) (fun z hz => by rcases HNJ.out z hz with h | h <;> omega)
              clear hG hgr hat
              go_wp2_with (at_builtin; refine wpList_append_run rfl _ _ 30 rfl rfl rfl hrun ?_)
              go_wp2
              go_roundw
              case rel => exact ⟨j + 1, by omega, by go_num, HG7, HN7, HK7, hw7⟩
              case measure => simp [intOf]; omega
            · have HE2 := Lib.hid (show brow f (B.take (j + 1)) = brow f (B.take j) by rw [HBS.out, HM.out, HEM.out]; simp)
              have HO5 := Lib.hid (show BxX (fun _ => False) w2.heap.size w4' (.slice oa L.length oc) (bopen (A.take k) B ++ brow f (B.take (j + 1))) by rw [HE2.out, HLL.out]; exact HO4'.out)
              go_wp2
              go_roundw
              case rel => exact ⟨j + 1, by omega, by go_num, HO5, HNJ, hK4, hw4'⟩
              case measure => simp [intOf]; omega
          · have HT2 := Lib.hid (show bopen (A.take (k + 1)) B = bopen (A.take k) B ++ brow f (B.take j) by rw [HSU.out, show B.take j = B from List.take_of_length_le (by rw [HMB.out]; omega)])
            go_wp2
            go_roundw
            case rel => exact ⟨k + 1, by omega, by go_num, by rw [HT2.out]; exact HOJ, HNJ, hKJ, hbj⟩
            case measure => simp [intOf]; omega
      · obtain rfl : k = n := by omega
        have HAL := Lib.hid (show A.take k = A from List.take_of_length_le (by rw [HNA.out]; omega))
        obtain ⟨oa, oc, rfl⟩ := HO.out.form
        have HO9 := Lib.hid (show BxX (fun _ => False) w2.heap.size wo (.slice oa (bopen (A.take k) B).length oc) (bopen A B) by
          have h := HO.out
          rw [HAL.out] at h ⊢
          exact h)
        generalize (bopen (A.take k) B).length = ol at *
        clear HO HNO HAL
        obtain ⟨rv, hrv⟩ : ∃ b, rvalid (bopen A B) = b := ⟨_, rfl⟩
        have HRV := Lib.hid hrv
        clear hrv
        go_wp2_with fail
        refine (specRV_b HO9.out.bxs HRV.out).mono ?_
        rintro e w9 ⟨rfl, hb9⟩
        have hw9 := hbr.trans (hb9.mono hbr.size)
        cases rv
        · obtain ⟨rfl, rfl⟩ := HZ.out (by rw [HRE.out, HRV.out]; rfl)
          go_wp2
          go_ret2
          exact ⟨_, rfl, BxX.bxs (X := fun _ => False) ⟨[], litOwn 68 1 enc1 (Nat.le_refl _), All2.nil⟩, hw9.alloc hw9.size _⟩
        · have HE8 := Lib.hid (show R = bopen A B ∧ q = true by
            have h1 : nopenO fs r gs c = some (bopen A B) := by rw [HRE.out, HRV.out]; rfl
            exact ⟨by rw [← HR.out, nopen_eq h1]; rfl, by rw [← HQ.out, h1]; rfl⟩)
          obtain ⟨rfl, rfl⟩ := HE8.out
          go_wp2
          go_ret2
          exact ⟨_, rfl, HO9.out.bxs.below hb9, hw9⟩
  · have HNO := Lib.hid (show nopenO fs r gs c = none by
      have h1 := HQX.out
      have h2 := HQY.out
      cases qx
      · exact nopenO_no (.inl (Option.not_isSome_iff_eq_none.1 (by rw [h1]; simp)))
      · cases qy
        · exact nopenO_no (.inr (Option.not_isSome_iff_eq_none.1 (by rw [h2]; simp)))
        · exact absurd ⟨rfl, rfl⟩ hqq)
    obtain ⟨rfl, rfl⟩ := HZ.out HNO.out
    cases qx <;> cases qy <;> first | exact absurd ⟨rfl, rfl⟩ hqq | (clear hqq; go_wp2; go_ret2; exact ⟨_, rfl, HO4.out.bxs, hw4⟩)
end Go.Proofs.YtajcogpfmpehkaaGreatDoor
