/- A drawn moment: flows, a packet and a time. -/
import Derived.Test.YtlppchkilinpfaaDoorRdFl
import Derived.Test.YtlppchkilinpfaaDoorRegRd
import Derived.Test.YtlppchkilinpfaaDoorRdRev
namespace Go.Proofs.YtlppchkilinpfaaDoor
open Go.RowKit
theorem OwnSl.setOther {α : Type} {base e sz : Nat} {enc : α → List Value} {w : World} {g o n cap : Nat} {ys : List α} (h : OwnSl base e sz enc w (.slice (some ⟨g, o, none⟩) n cap) ys) {b j : Nat} (hne : g ≠ b) (c : Value) : OwnSl base e sz enc (w.setCell ⟨b, j, none⟩ c) (.slice (some ⟨g, o, none⟩) n cap) ys := by
  refine ⟨h.1, ?_⟩
  obtain ⟨_, h | ⟨g', cap', cur, he, hg, hh, r⟩⟩ := h
  · exact Or.inl h
  · refine Or.inr ⟨g', cap', cur, he, hg, ?_, r⟩
    obtain ⟨h1, _, _⟩ := Value.slice.inj he
    obtain ⟨rfl, _, _⟩ := Addr.mk.inj (Option.some.inj h1)
    exact (Below.heap_setCell _ _ _ _ hne).trans hh
/-- The moment in the making. -/
def MoSt (R : Nat) (bs : List Int) (p : Nat) (w : World) (b : Nat) (v : Value) (ys : List Fl) (wx : World) : Prop :=
  ∃ q v0 v1 v2 v3, PkAll R bs w b wx q v0 v1 v2 v3 ∧ OwnFl (w.heap.size + 1) wx v ys ∧ q ≤ p
def DrawnMo (R : Nat) (bs : List Int) (p : Nat) (w : World) (e : Ending) (w' : World) : Prop :=
  ∃ v' ys x t q, e = .returned (.tuple #[v', Pk.v x, .int .i64 t]) ∧ OwnFl w.heap.size w' v' ys ∧ ys.length ≤ 23 ∧ -1 ≤ t ∧ t ≤ 1000001 ∧ RdAt R bs w' q ∧ q ≤ p + 400 ∧ Mv R w.heap.size w w'
set_option maxHeartbeats 4000000 in
theorem drawMo_any (R : Nat) (bs : List Int) (p : Nat) (w : World) (h : RdAt R bs w p) (hp : p ≤ 700000) :
    Calls Tryd.prog 47 #[.pointer (some ⟨R, 0, none⟩)] w (DrawnMo R bs p w) := by
  have hR := h.lt
  have hA0 := Box4.new w 0 0 0 0 24
  go_enter Tryd.func47, Tryd.ntmps47
  go_wp2_with fail
  refine (drawFls_any R bs p 14 _ (h.below ((Below.refl _ _).alloc (Nat.le_refl _) _)) (by omega) (by omega) (by omega)).mono ?_
  rintro e w1 ⟨v1, ys, q1, rfl, ho1, hlen, hr1, hq1, hm1⟩
  have hz1 := hm1.size; simp at hz1
  have hA1 := hA0.mv hm1 (by simp) (by omega)
  have hmq1 : Mv R w.heap.size w w1 := ((Mv.refl _ _ _).alloc (Nat.le_refl _) _).trans (hm1.mono (by simp))
  have ho1' : OwnFl (w.heap.size + 1) w1 v1 ys := OwnSl.mono ho1 (by simp)
  clear ho1 hm1
  go_wp2_with fail
  refine (drawPk_any R bs q1 14 _ hr1 (by omega) (by omega) (by omega)).mono ?_
  rintro e w2 ⟨⟨a, b, c, d⟩, q2, rfl, hr2, hq2, hm2⟩
  have hz2 := hm2.size
  have hA2 := hA1.mv hm2 (by omega) (by omega)
  have ho2 : OwnFl (w.heap.size + 1) w2 v1 ys := OwnSl.mv ho1' hm2 (by omega)
  have hmq2 : Mv R w.heap.size w w2 := hmq1.trans (hm2.mono (by omega))
  have hal : Below w2.heap.size w2 (w2.alloc (.cells #[.int .i64 a, .int .i64 b, .int .i64 c, .int .i64 d] 24)) := (Below.refl _ _).alloc (Nat.le_refl _) _
  have S0 : PkAll R bs w w2.heap.size (w2.alloc (.cells #[.int .i64 a, .int .i64 b, .int .i64 c, .int .i64 d] 24)) q2 a b c d :=
    ⟨hr2.below hal, Box4.new w2 a b c d _, hA2.old _, hmq2.alloc (by omega) _, hR, by omega⟩
  have ho3 : OwnFl (w.heap.size + 1) (w2.alloc (.cells #[.int .i64 a, .int .i64 b, .int .i64 c, .int .i64 d] 24)) v1 ys := OwnSl.kept ho2 hal
  have ST := Lib.hid (show MoSt R bs (p + 320) w w2.heap.size v1 ys _ from ⟨q2, a, b, c, d, S0, ho3, by omega⟩)
  obtain ⟨sa, cap, rfl, hlc, hcm, -⟩ := OwnFl.fls ho2
  unfold maxLen at hcm
  have hsa : ∀ g o, sa = some ⟨g, o, none⟩ → g < w2.heap.size := by
    intro g o e
    rcases OwnSl.form ho2 with ⟨h, _⟩ | ⟨g', cp, h, _, hl, _⟩
    · rw [e] at h; cases h
    · rw [e] at h; obtain ⟨h1, _, _⟩ := Value.slice.inj h; obtain ⟨rfl, _, _⟩ := Addr.mk.inj (Option.some.inj h1); exact hl
  clear hr1 hr2 hA1 hA2 ho1' ho2 ho3 hmq1 hmq2 hal S0 hm2 hA0
  go_upto_region 3 with (fail)
  go_cut [18] (fun t wx => ∃ bb, t = .bool bb ∧ (bb = true → 0 < ys.length) ∧ MoSt R bs (p + 321) w w2.heap.size (.slice sa ys.length cap) ys wx)
  case first =>
    obtain ⟨q, v0, v1, v2, v3, S, ho, hq⟩ := ST.out
    clear ST
    by_cases h0 : 0 < ys.length
    · go_wp2_with fail
      refine (pick_any R bs _ _ _ S.rd (by omega) (by omega)).mono ?_; (rintro e w6 ⟨x6, rfl, hax6, hbx6, -, hrx6, hmx6⟩; have hzx6 := hmx6.size; (try simp at hzx6); replace S := S.mv' hrx6 hmx6; (try replace ho := OwnSl.mv ho hmx6 (by omega)); clear hrx6 hmx6)
      go_wp2_with fail
      go_meet
      exact ⟨_, rfl, fun _ => h0, _, v0, v1, v2, v3, S, ho, by omega⟩
    · go_wp2_with fail
      go_meet
      exact ⟨_, rfl, by simp, q, v0, v1, v2, v3, S, ho, by omega⟩
  case rest =>
    obtain ⟨bb, rfl, hbb, hst⟩ := hcut
    clear ST
    have ST := Lib.hid hst
    clear hst
    go_upto_if 18 with (fail)
    go_cut [] (fun wx => MoSt R bs (p + 330) w w2.heap.size (.slice sa ys.length cap) ys wx)
    case first =>
      cases bb
      · go_wp2_with fail
        go_meet
        obtain ⟨q, v0, v1, v2, v3, S, ho, hq⟩ := ST.out
        exact ⟨q, v0, v1, v2, v3, S, ho, by omega⟩
      · have h0 := hbb rfl
        obtain ⟨q, v0, v1, v2, v3, S, ho, hq⟩ := ST.out
        clear ST
        go_wp2_with fail
        refine (pick_any R bs _ _ _ S.rd (by omega) (by omega)).mono ?_; (rintro e w6 ⟨x6, rfl, hax6, hbx6, -, hrx6, hmx6⟩; have hzx6 := hmx6.size; (try simp at hzx6); replace S := S.mv' hrx6 hmx6; (try replace ho := OwnSl.mv ho hmx6 (by omega)); clear hrx6 hmx6)
        have hx6 := hbx6 (by omega)
        obtain ⟨m, rfl⟩ := Int.eq_ofNat_of_zero_le hax6
        have hm6 : m < ys.length := by omega
        obtain ⟨f1, f2, f3, f4, t, hx⟩ := Fls.ex hm6
        obtain ⟨b', o', f1', f2', f3', f4', t', rfl, hbl, hx', e0, e1, e2, e3, e4⟩ := (OwnFl.fls ho).at hm6
        obtain ⟨l0, c0, c1, c2, c3, cf⟩ := id S.B
        have hlt := hsa _ _ rfl
        go_wp2_with fail
        replace S := S.st (S.B.set f1').1
        replace S := S.st (S.B.set f2').2.1
        replace S := S.st (S.B.set f3').2.2.1
        replace S := S.st (S.B.set f4').2.2.2
        replace ho := OwnSl.setOther (OwnSl.setOther (OwnSl.setOther (OwnSl.setOther ho (b := w2.heap.size) (j := 0) (by omega) (.int .i64 f1')) (b := w2.heap.size) (j := 1) (by omega) (.int .i64 f2')) (b := w2.heap.size) (j := 2) (by omega) (.int .i64 f3')) (b := w2.heap.size) (j := 3) (by omega) (.int .i64 f4')
        clear e0 e1 e2 e3 e4 c0 c1 c2 c3 cf hx hx' hbl
        refine (pick_any R bs _ _ _ S.rd (by omega) (by omega)).mono ?_; (rintro e w7 ⟨x7, rfl, hax7, hbx7, -, hrx7, hmx7⟩; have hzx7 := hmx7.size; (try simp at hzx7); replace S := S.mv' hrx7 hmx7; (try replace ho := OwnSl.mv ho hmx7 (by omega)); clear hrx7 hmx7)
        obtain rfl | rfl : x7 = 0 ∨ x7 = 1 := by omega
        · obtain ⟨l0, c0, c1, c2, c3, cf⟩ := id S.B
          go_wp2_with fail
          obtain ⟨⟨g1, g2, g3, g4⟩, hg⟩ : ∃ y, Pk.revv ⟨f1', f2', f3', f4'⟩ = y := ⟨_, rfl⟩
          refine (specRev_b hg _).mono ?_
          rintro e w8 ⟨rfl, hb8⟩
          replace S := S.mv' (S.rd.below hb8) (Mv.of_below hb8)
          replace ho := OwnSl.kept ho hb8
          clear c0 c1 c2 c3 cf
          obtain ⟨l0, c0, c1, c2, c3, cf⟩ := id S.B
          go_wp2_with fail
          replace S := S.st (S.B.set g1).1
          replace S := S.st (S.B.set g2).2.1
          replace S := S.st (S.B.set g3).2.2.1
          replace S := S.st (S.B.set g4).2.2.2
          replace ho := OwnSl.setOther (OwnSl.setOther (OwnSl.setOther (OwnSl.setOther ho (b := w2.heap.size) (j := 0) (by omega) (.int .i64 g1)) (b := w2.heap.size) (j := 1) (by omega) (.int .i64 g2)) (b := w2.heap.size) (j := 2) (by omega) (.int .i64 g3)) (b := w2.heap.size) (j := 3) (by omega) (.int .i64 g4)
          go_meet
          exact ⟨_, _, _, _, _, S, ho, by omega⟩
        · go_wp2_with fail
          go_meet
          exact ⟨_, _, _, _, _, S, ho, by omega⟩
    case rest =>
      obtain ⟨q, v0, v1, v2, v3, S, ho, hq⟩ := hcut
      clear ST hbb
      have hmv := S.mv.size
      have hlt2 := S.B.lt
      obtain ⟨l0, c0, c1, c2, c3, cf⟩ := id S.B
      obtain ⟨a0, d0, d1, d2, d3, df⟩ := id S.A
      clear cf
      obtain ⟨wx, rfl⟩ := nameMv S.mv
      have hR' := S.hR
      have hX : ∀ x y : World, Mv R x.heap.size x y → Box4 x w.heap.size v0 v1 v2 v3 → Box4 y w.heap.size v0 v1 v2 v3 := fun x y hm h => h.mv hm h.lt (by omega)
      have hY : ∀ x y : World, Mv R x.heap.size x y → (∃ a b c d, Box4 x w.heap.size a b c d) → (∃ a b c d, Box4 y w.heap.size a b c d) := fun x y hm ⟨a, b, c, d, h⟩ => ⟨a, b, c, d, h.mv hm h.lt (by omega)⟩
      go_upto_region 7 with (fail)
      refine wp_region_rel (N := 15) (RC R bs q 1 wx [w.heap.size] (fun x => ∃ a b c d, Box4 x w.heap.size a b c d)) (EvR wx.heap.size (fun x => Box4 x w.heap.size v0 v1 v2 v3))
        (Fof [FIs (.slice sa ys.length cap), FIs (Pk.v ⟨v0, v1, v2, v3⟩), FIs (.pointer (some ⟨R, 0, none⟩)), FI 0 69, FSl wx.heap.size 4 (-1) 1000001, FSl wx.heap.size 9 0 3, FIs (.pointer (some ⟨R, 0, none⟩)), FI 0 8, FPt wx.heap.size 0 3, FI 0 3, FPt wx.heap.size (-1) 1000001, FI (-1) 1000001, FIs (.slice sa ys.length cap), FX (fun x => Box4 x w.heap.size v0 v1 v2 v3), FI (-1) 1000001])
        (by kernel_rfl) rfl (fun u => by simp only [frU, Act.put, List.setIfInBounds_toArray, List.set_cons_succ, List.set_cons_zero, Nat.zero_add, Nat.reduceAdd]; exact rfl) (by kernel_rfl) (stb_of _ ?hst) (RC.start S.rd (Nat.le_refl _) ?h0) ?hs ?hend
      case hst => exact ⟨stb_is _ _ _, stb_is _ _ _, stb_is _ _ _, stb_i _ _ _ _, stb_sl _ _ _ _ _, stb_sl _ _ _ _ _, stb_is _ _ _, stb_i _ _ _ _, stb_pt _ _ _ _, stb_i _ _ _ _, stb_pt _ _ _ _, stb_i _ _ _ _, stb_is _ _ _, stb_x _ _, stb_i _ _ _ _, trivial⟩
      case h0 => exact ⟨_, _, _, _, S.A.lt, S.A.c0, S.A.c1, S.A.c2, S.A.c3, S.A.frz⟩
      case hs =>
        clear ho d0 d1 d2 d3 df
        refine ⟨?_, ?_, ?_, ?_, ?_, ?_, ?_, ?_, ?_, ?_, ?_, ?_, ?_, ?_, ?_, trivial⟩
        · (refine step_plain rfl (fun m u w3 hm hC hd Q K hK => ?_); (go_step; exact hK _ _ rfl hC.same (EvR.refl _ _ _) rfl))
        · refine step_plain rfl (fun m u w3 hm hC hd Q K hK => ?_)
          have kc := hC.cell w2.heap.size (by omega) (by omega) (by simp; omega)
          go_step
          exact hK _ _ rfl hC.same (EvR.refl _ _ _) rfl
        · (refine step_plain rfl (fun m u w3 hm hC hd Q K hK => ?_); (go_step; exact hK _ _ rfl hC.same (EvR.refl _ _ _) rfl))
        · (refine step_plain rfl (fun m u w3 hm hC hd Q K hK => ?_); have hu := fis (w := w3) (hd 2 rfl); rw [hu] at hK ⊢; clear hu; obtain ⟨qr, hr, hqr⟩ := hC.rd; go_step; refine (pick_any R bs qr _ _ hr (by omega) (by omega)).mono ?_; rintro e w4 ⟨x, rfl, hx0, hx1, hx2, hr4, hm4⟩; exact hK _ _ rfl (hC.mv hY hr4 (by omega) hm4) (EvR.mv hX (by omega) hm4) ⟨x, rfl, hx0, by omega⟩)
        · (refine step_plain rfl (fun m u w3 hm hC hd Q K hK => ?_); obtain ⟨x, hu, hx0, hx1⟩ := fi (w := w3) (hd 3 rfl); rw [hu] at hK ⊢; clear hu; go_step; refine hK _ _ rfl (hC.alloc hY _) (EvR.alloc _ hX (by omega) _) ⟨_, rfl, hC.size, by simp, fun j hj => ?_⟩; match j, hj with | 0, _ => exact ⟨_, by simp; try rfl, by omega, by omega⟩ | 1, _ => exact ⟨_, by simp; try rfl, by omega, by omega⟩ | 2, _ => exact ⟨_, by simp; try rfl, by omega, by omega⟩ | 3, _ => exact ⟨_, by simp; try rfl, by omega, by omega⟩ | j + 4, hj => exact absurd hj (by omega))
        · (refine step_plain rfl (fun m u w3 hm hC hd Q K hK => ?_); go_step; refine hK _ _ rfl (hC.alloc hY _) (EvR.alloc _ hX (by omega) _) ⟨_, rfl, hC.size, by simp, fun j hj => ?_⟩; match j, hj with | 0, _ => exact ⟨_, by simp; try rfl, by omega, by omega⟩ | 1, _ => exact ⟨_, by simp; try rfl, by omega, by omega⟩ | 2, _ => exact ⟨_, by simp; try rfl, by omega, by omega⟩ | 3, _ => exact ⟨_, by simp; try rfl, by omega, by omega⟩ | 4, _ => exact ⟨_, by simp; try rfl, by omega, by omega⟩ | 5, _ => exact ⟨_, by simp; try rfl, by omega, by omega⟩ | 6, _ => exact ⟨_, by simp; try rfl, by omega, by omega⟩ | 7, _ => exact ⟨_, by simp; try rfl, by omega, by omega⟩ | 8, _ => exact ⟨_, by simp; try rfl, by omega, by omega⟩ | j + 9, hj => exact absurd hj (by omega))
        · (refine step_plain rfl (fun m u w3 hm hC hd Q K hK => ?_); (go_step; exact hK _ _ rfl hC.same (EvR.refl _ _ _) rfl))
        · (refine step_plain rfl (fun m u w3 hm hC hd Q K hK => ?_); have hu := fis (w := w3) (hd 6 rfl); rw [hu] at hK ⊢; clear hu; obtain ⟨qr, hr, hqr⟩ := hC.rd; go_step; refine (pick_any R bs qr _ _ hr (by omega) (by omega)).mono ?_; rintro e w4 ⟨x, rfl, hx0, hx1, hx2, hr4, hm4⟩; exact hK _ _ rfl (hC.mv hY hr4 (by omega) hm4) (EvR.mv hX (by omega) hm4) ⟨x, rfl, hx0, by omega⟩)
        · (refine step_plain rfl (fun m u w3 hm hC hd Q K hK => ?_); obtain ⟨b, hu, hb0, hb1, hbc⟩ := fsl (hd 5 rfl); rw [hu] at hK ⊢; clear hu; obtain ⟨n, hu, hn1⟩ := fin (w := w3) (hd 7 rfl); rw [hu] at hK ⊢; clear hu; go_step; refine hK _ _ rfl hC.same (EvR.refl _ _ _) ⟨b, _, rfl, hb0, hb1, ?_⟩; (try simp only [Nat.zero_add, Nat.mul_one, Nat.add_zero]); exact hbc n (by omega))
        · (refine step_plain rfl (fun m u w3 hm hC hd Q K hK => ?_); obtain ⟨b, o, hu, hb0, hb1, x, hxc, hx2, hx3⟩ := fpt (hd 8 rfl); rw [hu] at hK ⊢; clear hu; go_step; exact hK _ _ rfl hC.same (EvR.refl _ _ _) ⟨x, rfl, hx2, hx3⟩)
        · (refine step_plain rfl (fun m u w3 hm hC hd Q K hK => ?_); obtain ⟨b, hu, hb0, hb1, hbc⟩ := fsl (hd 4 rfl); rw [hu] at hK ⊢; clear hu; obtain ⟨n, hu, hn1⟩ := fin (w := w3) (hd 9 rfl); rw [hu] at hK ⊢; clear hu; go_step; refine hK _ _ rfl hC.same (EvR.refl _ _ _) ⟨b, _, rfl, hb0, hb1, ?_⟩; (try simp only [Nat.zero_add, Nat.mul_one, Nat.add_zero]); exact hbc n (by omega))
        · (refine step_plain rfl (fun m u w3 hm hC hd Q K hK => ?_); obtain ⟨b, o, hu, hb0, hb1, x, hxc, hx2, hx3⟩ := fpt (hd 10 rfl); rw [hu] at hK ⊢; clear hu; go_step; exact hK _ _ rfl hC.same (EvR.refl _ _ _) ⟨x, rfl, hx2, hx3⟩)
        · (refine step_plain rfl (fun m u w3 hm hC hd Q K hK => ?_); have hu := fis (w := w3) (hd 0 rfl); rw [hu] at hK ⊢; clear hu; go_step; exact hK _ _ rfl hC.same (EvR.refl _ _ _) rfl)
        · refine step_plain rfl (fun m u w3 hm hC hd Q K hK => ?_)
          have hu := fis (w := w3) (hd 1 rfl); rw [hu] at hK ⊢; clear hu
          obtain ⟨e0, e1, e2, e3, l0, y0, y1, y2, y3, yf⟩ := hC.y
          have hb4 := ((((Box4.mk l0 y0 y1 y2 y3 yf).set v0).1.set v1).2.1.set v2).2.2.1.set v3
          have hb5 := hb4.2.2.2
          clear hb4
          go_step
          have hmA := (((Mv.set w.heap.size w3.heap.size w3 0 (.int .i64 v0)).trans (Mv.set _ _ _ 1 (.int .i64 v1))).trans (Mv.set _ _ _ 2 (.int .i64 v2))).trans (Mv.set _ _ _ 3 (.int .i64 v3))
          exact hK _ _ rfl (hC.store (by simp) hR' hmA ⟨_, _, _, _, hb5⟩) (EvR.store a0 hmA hb5) hb5
        · (refine step_plain rfl (fun m u w3 hm hC hd Q K hK => ?_); obtain ⟨x, hu, hx0, hx1⟩ := fi (w := w3) (hd 11 rfl); rw [hu] at hK ⊢; clear hu; go_step; exact hK _ _ rfl hC.same (EvR.refl _ _ _) ⟨x, rfl, hx0, hx1⟩)
      case hend =>
        intro u w9 hC hF
        have g2 := fis (w := w9) (hF 12 (by omega))
        obtain ⟨x, g4, hx0, hx1⟩ := fi (w := w9) (hF 14 (by omega))
        obtain ⟨k0, k1, k2, k3, k4, k5⟩ : Box4 w9 w.heap.size v0 v1 v2 v3 := hF 13 (by omega)
        rw [g2, g4]
        obtain ⟨q9, hr9, hq9⟩ := hC.rd
        have ho9 := Lib.hid (OwnSl.from ho (fun g h1 h2 => hC.block g h2 (by omega) (by simp; omega)))
        have hm9 : Mv R w.heap.size w w9 := ⟨hC.os.trans S.mv.os, hC.tape.trans S.mv.tape, hC.output.trans S.mv.output, Nat.le_trans S.mv.size hC.size, fun k hk hne => (hC.block k (by omega) hne (by simp; omega)).trans (S.mv.block k hk hne)⟩
        clear hC hF c0 c1 c2 c3 d0 d1 d2 d3 df
        go_wp2_with fail
        exact bodyPost_ret (v := .tuple #[.slice sa ys.length cap, Pk.v ⟨v0, v1, v2, v3⟩, .int .i64 x]) (by simp [results, Tryd.results47, go_sem, *]) rfl ⟨_, ys, ⟨v0, v1, v2, v3⟩, x, q9, rfl, OwnSl.mono ho9.out (by omega), hlen, hx0, hx1, hr9, by omega, hm9⟩
end Go.Proofs.YtlppchkilinpfaaDoor
