/- The law FnTableFind: the draw. -/
import Derived.Test.YtfnfpekjjmejnaaRdTV
namespace Go.Proofs.Ytfnfpekjjmejnaa
open Go.RowKit
def DrewTF (w : World) (e : Ending) (w' : World) : Prop := ∃ v' ys a, e = .returned (.tuple #[v', .int .i64 a]) ∧ OwnEn w.heap.size w' v' ys ∧ ys.length ≤ 32 ∧ Below w.heap.size w w'
/-- The list, and an address, in the making. -/
def TfSt (R : Nat) (bs : List Int) (p base : Nat) (W : World) (v : Value) (ys : List En) (wx : World) : Prop :=
  ∃ q, OwnEn base wx v ys ∧ RdAt R bs wx q ∧ q ≤ p ∧ Mv R W.heap.size W wx
set_option maxRecDepth 100000 in
set_option maxHeartbeats 4000000 in
theorem drawTF_any (bs : List Int) (v : Value) (w : World) (h : CodeAt w v bs) : Calls Try.prog 33 #[v] w (DrewTF w) := by
  have hfd : ∀ (w : World) (a b : Int), (Instr.field 33 (.agg #[.int .i64 a, .int .i64 b]) 0).run Try.prog w = .ok (.int .i64 a) w := fun _ _ _ => by kernel_rfl
  go_enter Try.func33, Try.ntmps33
  go_wp2_with fail
  refine (open_any bs _ _ h).mono ?_
  rintro e w1 ⟨R, bs', rfl, hR, hr1, hb1⟩
  have hz1 := hb1.size
  have hRlt := hr1.lt
  clear h
  go_wp2_with fail
  refine (drawTb_any R bs' 0 12 _ hr1 (by omega) (by omega) (by omega)).mono ?_
  rintro e w2 ⟨v2, ys, q2, rfl, ho2, hl, hr2, hq2, hm2⟩
  have hz2 := hm2.size
  clear hr1
  obtain ⟨sa, cap, rfl, hlc, hcm, -⟩ := ho2.ens
  unfold maxLen at hcm
  go_wp2_with fail
  refine (drawPf_any R bs' q2 0 _ hr2 (by omega) (by omega) (by omega)).mono ?_
  rintro e w3 ⟨a, l3, q3, rfl, -, -, -, -, hr3, hq3, hm3⟩
  have hz3 := hm3.size
  have ho3 : OwnEn w1.heap.size w3 _ ys := OwnSl.mvR ho2 hm3 hRlt
  have hmq3 : Mv R w1.heap.size w1 w3 := hm2.trans (hm3.mono hz2)
  have ST := Lib.hid (show TfSt R bs' 1231 w1.heap.size w1 (.slice sa ys.length cap) ys w3 from ⟨q3, ho3, hr3, by omega, hmq3⟩)
  clear ho2 hr2 hm2 hm3 ho3 hr3 hmq3
  go_upto_region 4 with (fail)
  go_cut [21] (fun t wx => ∃ bb, t = .bool bb ∧ (bb = true → 0 < ys.length) ∧ TfSt R bs' 1232 w1.heap.size w1 (.slice sa ys.length cap) ys wx)
  case first =>
    obtain ⟨q, ho, hr, hq, hmq⟩ := ST.out
    clear ST
    have hzq := hmq.size
    by_cases h0 : 0 < ys.length
    · go_wp2_with fail
      refine (pick_any R bs' _ _ _ hr (by omega) (by omega)).mono ?_
      rintro e w4 ⟨x4, rfl, a4, b4, -, hr4, hm4⟩
      have b4' := b4 (by omega)
      have hz4 := hm4.size
      have ho4 : OwnEn w1.heap.size w4 _ ys := OwnSl.mvR ho hm4 hRlt
      have hmr4 : Mv R w1.heap.size w1 w4 := hmq.trans (hm4.mono hzq)
      clear ho hr hm4 hmq b4
      go_wp2_with fail
      go_meet
      exact ⟨_, rfl, fun _ => h0, _, ho4, hr4, by omega, hmr4⟩
    · obtain rfl : ys = [] := List.eq_nil_of_length_eq_zero (by omega)
      clear h0
      go_wp2_with fail
      go_meet
      exact ⟨_, rfl, by simp, q, ho, hr, by omega, hmq⟩
  case rest =>
   obtain ⟨bb, rfl, hbb, hst⟩ := hcut
   clear ST
   have ST := Lib.hid hst
   clear hst
   go_upto_if 21 with (fail)
   go_cut [6] (fun t wx => ∃ x, t = .int .i64 x ∧ TfSt R bs' 1260 w1.heap.size w1 (.slice sa ys.length cap) ys wx)
   case first =>
    cases bb
    · go_wp2_with fail
      go_meet
      obtain ⟨q, ho, hr, hq, hmq⟩ := ST.out
      exact ⟨_, rfl, q, ho, hr, by omega, hmq⟩
    · have h0 := hbb rfl
      obtain ⟨q4, ho4, hr4, hq4, hmr4⟩ := ST.out
      obtain ⟨w4, rfl⟩ := nameMv hmr4
      have hz4 := hmr4.size
      clear ST hbb
      have hY : ∀ x y : World, Mv R x.heap.size x y → True → True := fun _ _ _ _ => trivial
      have hX : ∀ x y : World, Mv R x.heap.size x y → True → True := fun _ _ _ _ => trivial
      have HO4 := Lib.hid ho4
      clear ho4
      obtain ⟨b, o, -, -, -, rfl, -, -, -, -, -⟩ := HO4.out.ens.at h0
      go_upto_region 5 with (fail)
      refine wp_region_rel (N := 13) (RC R bs' _ 1 w4 [] (fun _ => True)) (EvR w1.heap.size (fun _ => True))
        (Fof [FIs (.slice (some ⟨b, o, none⟩) ys.length cap), FIs (.pointer (some ⟨R, 0, none⟩)), FIs (.slice (some ⟨b, o, none⟩) ys.length cap), FIs (.int .i64 ys.length), FI 0 (ys.length - 1), FP (fun v => ∃ k : Nat, k < ys.length ∧ v = .pointer (some ⟨b, o + k * 3, none⟩)), FP (fun v => ∃ k : Nat, k < ys.length ∧ v = .pointer (some ⟨b, o + k * 3, none⟩)), FP (fun v => ∃ k : Nat, k < ys.length ∧ v = .pointer (some ⟨b, o + k * 3, none⟩)), FInt, FIs (.pointer (some ⟨R, 0, none⟩)), FI 0 2, FInt, FInt])
        (by kernel_rfl) rfl (fun u => by simp only [frU, Act.put, List.setIfInBounds_toArray, List.set_cons_succ, List.set_cons_zero, Nat.zero_add, Nat.reduceAdd]; exact rfl) (by kernel_rfl) (stb_of _ ?hst) (RC.start hr4 (Nat.le_refl _) trivial) ?hs ?hend
      case hst => exact ⟨stb_is _ _ _, stb_is _ _ _, stb_is _ _ _, stb_is _ _ _, stb_i _ _ _ _, stb_p _ _ _, stb_p _ _ _, stb_p _ _ _, stb_p _ _ _, stb_is _ _ _, stb_i _ _ _ _, stb_p _ _ _, stb_p _ _ _, trivial⟩
      case hs =>
        refine ⟨?_, ?_, ?_, ?_, ?_, ?_, ?_, ?_, ?_, ?_, ?_, ?_, ?_, trivial⟩
        · (refine step_plain rfl (fun m u w3 hm hC hd Q K hK => ?_); (go_step; exact hK _ _ rfl hC.same (EvR.refl _ _ _) rfl))
        · (refine step_plain rfl (fun m u w3 hm hC hd Q K hK => ?_); (go_step; exact hK _ _ rfl hC.same (EvR.refl _ _ _) rfl))
        · (refine step_plain rfl (fun m u w3 hm hC hd Q K hK => ?_); (go_step; exact hK _ _ rfl hC.same (EvR.refl _ _ _) rfl))
        · refine step_plain rfl (fun m u w3 hm hC hd Q K hK => ?_)
          have hu := fis (w := w3) (hd 2 rfl); rw [hu] at hK ⊢; clear hu
          (go_step; exact hK _ _ rfl hC.same (EvR.refl _ _ _) rfl)
        · refine step_plain rfl (fun m u w3 hm hC hd Q K hK => ?_)
          have hu := fis (w := w3) (hd 1 rfl); rw [hu] at hK ⊢; clear hu
          have hu := fis (w := w3) (hd 3 rfl); rw [hu] at hK ⊢; clear hu
          obtain ⟨qr, hr, hqr⟩ := hC.rd
          go_step
          refine (pick_any R bs' qr _ _ hr (by omega) (by omega)).mono ?_
          rintro e w5 ⟨x, rfl, hx0, hx1, hx2, hr5, hm5⟩
          exact hK _ _ rfl (hC.mv hY hr5 (by omega) hm5) (EvR.mv hX (by omega) hm5) ⟨x, rfl, hx0, by omega⟩
        · refine step_plain rfl (fun m u w3 hm hC hd Q K hK => ?_)
          have hu := fis (w := w3) (hd 0 rfl); rw [hu] at hK ⊢; clear hu
          obtain ⟨k, hu, hk1⟩ := fin (w := w3) (hd 4 rfl); rw [hu] at hK ⊢; clear hu
          have hkl : (k : Int) < ys.length := by omega
          go_step
          exact hK _ _ rfl hC.same (EvR.refl _ _ _) ⟨k, by omega, rfl⟩
        · refine step_plain rfl (fun m u w3 hm hC hd Q K hK => ?_)
          obtain ⟨k, hk, hu⟩ := fp (w := w3) (hd 5 rfl); rw [hu] at hK ⊢; clear hu
          (go_step; exact hK _ _ rfl hC.same (EvR.refl _ _ _) ⟨k, hk, rfl⟩)
        · refine step_plain rfl (fun m u w3 hm hC hd Q K hK => ?_)
          obtain ⟨k, hk, hu⟩ := fp (w := w3) (hd 6 rfl); rw [hu] at hK ⊢; clear hu
          (go_step; exact hK _ _ rfl hC.same (EvR.refl _ _ _) ⟨k, hk, rfl⟩)
        · refine step_plain rfl (fun m u w3 hm hC hd Q K hK => ?_)
          obtain ⟨k, hk, hu⟩ := fp (w := w3) (hd 7 rfl); rw [hu] at hK ⊢; clear hu
          have ho7 := HO4.out.from (fun g h1 h2 => hC.block g h2 (by omega) (by simp))
          obtain ⟨eb, eo, f1, f2, f3, he, hbl, hx, c0, c1, c2⟩ := (OwnEn.ens ho7).at hk
          obtain ⟨rfl, rfl, -⟩ := Addr.mk.inj (Option.some.inj he)
          clear he c1 c2 hx ho7
          go_step
          exact hK _ _ rfl hC.same (EvR.refl _ _ _) ⟨f1, rfl⟩
        · (refine step_plain rfl (fun m u w3 hm hC hd Q K hK => ?_); (go_step; exact hK _ _ rfl hC.same (EvR.refl _ _ _) rfl))
        · (refine step_plain rfl (fun m u w3 hm hC hd Q K hK => ?_); have hu := fis (w := w3) (hd 9 rfl); rw [hu] at hK ⊢; clear hu; obtain ⟨qr, hr, hqr⟩ := hC.rd; go_step; refine (pick_any R _ qr _ _ hr (by omega) (by omega)).mono ?_; rintro e w4 ⟨x, rfl, hx0, hx1, hx2, hr4, hm4⟩; exact hK _ _ rfl (hC.mv hY hr4 (by omega) hm4) (EvR.mv hX (by omega) hm4) ⟨x, rfl, hx0, by omega⟩)
        · refine step_plain rfl (fun m u w3 hm hC hd Q K hK => ?_)
          obtain ⟨x, hu⟩ := fp (w := w3) (hd 8 rfl); rw [hu] at hK ⊢; clear hu
          obtain ⟨y, hu, hy0, hy1⟩ := fi (w := w3) (hd 10 rfl); rw [hu] at hK ⊢; clear hu
          (go_step; exact hK _ _ rfl hC.same (EvR.refl _ _ _) ⟨_, rfl⟩)
        · refine step_plain rfl (fun m u w3 hm hC hd Q K hK => ?_)
          obtain ⟨x, hu⟩ := fp (w := w3) (hd 11 rfl); rw [hu] at hK ⊢; clear hu
          (go_step; exact hK _ _ rfl hC.same (EvR.refl _ _ _) ⟨_, rfl⟩)
      case hend =>
        intro u w9 hC hF
        obtain ⟨x9, hx9⟩ : FInt w9 (u 12) := hF 12 (by omega)
        rw [hx9]
        obtain ⟨q9, hr9, hq9⟩ := hC.rd
        have hm9 : Mv R w1.heap.size w1 w9 := ⟨hC.os.trans hmr4.os, hC.tape.trans hmr4.tape, hC.output.trans hmr4.output, Nat.le_trans hmr4.size hC.size, fun k hk hne => (hC.block k (by omega) hne (by simp)).trans (hmr4.block k hk hne)⟩
        have ho9 := Lib.hid (HO4.out.from (fun g h1 h2 => hC.block g h2 (by omega) (by simp)))
        clear hC hF hr4
        go_wp2_with fail
        go_meet
        exact ⟨_, rfl, q9, ho9.out, hr9, by omega, hm9⟩
   case rest =>
     obtain ⟨x, rfl, q, ho, hr, hq, hmq⟩ := hcut
     clear ST
     obtain ⟨wx, rfl⟩ := nameMv hmq
     have hzq := hmq.size
     obtain ⟨lo, hi, lo1, lo2, hi1, hi2⟩ : ∃ lo hi : Int, lo ≤ x ∧ lo ≤ -1 ∧ x ≤ hi ∧ 65536 ≤ hi := ⟨-(x.natAbs : Int) - 1, (x.natAbs : Int) + 65536, by omega, by omega, by omega, by omega⟩
     have hY : ∀ x y : World, Mv R x.heap.size x y → True → True := fun _ _ _ _ => trivial
     have hX : ∀ x y : World, Mv R x.heap.size x y → True → True := fun _ _ _ _ => trivial
     go_upto_region 6 with (fail)
     refine wp_region_rel (N := 12) (RC R bs' _ 1 wx [] (fun _ => True)) (EvR wx.heap.size (fun _ => True))
       (Fof [FIs (.slice sa ys.length cap), FIs (.int .i64 x), FSl wx.heap.size 3 lo hi, FSl wx.heap.size 7 0 2, FIs (.pointer (some ⟨R, 0, none⟩)), FI 0 6, FPt wx.heap.size 0 2, FI 0 2, FPt wx.heap.size lo hi, FI lo hi, FIs (.slice sa ys.length cap), FI lo hi])
       (by kernel_rfl) rfl (fun u => by simp only [frU, Act.put, List.setIfInBounds_toArray, List.set_cons_succ, List.set_cons_zero, Nat.zero_add, Nat.reduceAdd]; exact rfl) (by kernel_rfl) (stb_of _ ?hst) (RC.start hr (Nat.le_refl _) trivial) ?hs ?hend
     case hst => exact ⟨stb_is _ _ _, stb_is _ _ _, stb_sl _ _ _ _ _, stb_sl _ _ _ _ _, stb_is _ _ _, stb_i _ _ _ _, stb_pt _ _ _ _, stb_i _ _ _ _, stb_pt _ _ _ _, stb_i _ _ _ _, stb_is _ _ _, stb_i _ _ _ _, trivial⟩
     case hs =>
       refine ⟨?_, ?_, ?_, ?_, ?_, ?_, ?_, ?_, ?_, ?_, ?_, ?_, trivial⟩
       · (refine step_plain rfl (fun m u w3 hm hC hd Q K hK => ?_); (go_step; exact hK _ _ rfl hC.same (EvR.refl _ _ _) rfl))
       · (refine step_plain rfl (fun m u w3 hm hC hd Q K hK => ?_); (go_step; exact hK _ _ rfl hC.same (EvR.refl _ _ _) rfl))
       · (refine step_plain rfl (fun m u w3 hm hC hd Q K hK => ?_); have hu := fis (w := w3) (hd 1 rfl); rw [hu] at hK ⊢; clear hu; go_step; refine hK _ _ rfl (hC.alloc hY _) (EvR.alloc _ hX (by omega) _) ⟨_, rfl, hC.size, by simp, fun j hj => ?_⟩; match j, hj with | 0, _ => exact ⟨_, by simp; try rfl, by omega, by omega⟩ | 1, _ => exact ⟨_, by simp; try rfl, by omega, by omega⟩ | 2, _ => exact ⟨_, by simp; try rfl, by omega, by omega⟩ | j + 3, hj => exact absurd hj (by omega))
       · (refine step_plain rfl (fun m u w3 hm hC hd Q K hK => ?_); go_step; refine hK _ _ rfl (hC.alloc hY _) (EvR.alloc _ hX (by omega) _) ⟨_, rfl, hC.size, by simp, fun j hj => ?_⟩; match j, hj with | 0, _ => exact ⟨_, by simp; try rfl, by omega, by omega⟩ | 1, _ => exact ⟨_, by simp; try rfl, by omega, by omega⟩ | 2, _ => exact ⟨_, by simp; try rfl, by omega, by omega⟩ | 3, _ => exact ⟨_, by simp; try rfl, by omega, by omega⟩ | 4, _ => exact ⟨_, by simp; try rfl, by omega, by omega⟩ | 5, _ => exact ⟨_, by simp; try rfl, by omega, by omega⟩ | 6, _ => exact ⟨_, by simp; try rfl, by omega, by omega⟩ | j + 7, hj => exact absurd hj (by omega))
       · (refine step_plain rfl (fun m u w3 hm hC hd Q K hK => ?_); (go_step; exact hK _ _ rfl hC.same (EvR.refl _ _ _) rfl))
       · refine step_plain rfl (fun m u w3 hm hC hd Q K hK => ?_)
         have hu := fis (w := w3) (hd 4 rfl); rw [hu] at hK ⊢; clear hu
         obtain ⟨qr, hr, hqr⟩ := hC.rd
         go_step
         refine (pick_any R bs' qr _ _ hr (by omega) (by omega)).mono ?_
         rintro e w5 ⟨x5, rfl, hx0, hx1, hx2, hr5, hm5⟩
         exact hK _ _ rfl (hC.mv hY hr5 (by omega) hm5) (EvR.mv hX (by omega) hm5) ⟨x5, rfl, hx0, by omega⟩
       · (refine step_plain rfl (fun m u w3 hm hC hd Q K hK => ?_); obtain ⟨b, hu, hb0, hb1, hbc⟩ := fsl (hd 3 rfl); rw [hu] at hK ⊢; clear hu; obtain ⟨n, hu, hn1⟩ := fin (w := w3) (hd 5 rfl); rw [hu] at hK ⊢; clear hu; go_step; refine hK _ _ rfl hC.same (EvR.refl _ _ _) ⟨b, _, rfl, hb0, hb1, ?_⟩; (try simp only [Nat.zero_add, Nat.mul_one, Nat.add_zero]); exact hbc n (by omega))
       · (refine step_plain rfl (fun m u w3 hm hC hd Q K hK => ?_); obtain ⟨b, o, hu, hb0, hb1, x, hxc, hx2, hx3⟩ := fpt (hd 6 rfl); rw [hu] at hK ⊢; clear hu; go_step; exact hK _ _ rfl hC.same (EvR.refl _ _ _) ⟨x, rfl, hx2, hx3⟩)
       · (refine step_plain rfl (fun m u w3 hm hC hd Q K hK => ?_); obtain ⟨b, hu, hb0, hb1, hbc⟩ := fsl (hd 2 rfl); rw [hu] at hK ⊢; clear hu; obtain ⟨n, hu, hn1⟩ := fin (w := w3) (hd 7 rfl); rw [hu] at hK ⊢; clear hu; go_step; refine hK _ _ rfl hC.same (EvR.refl _ _ _) ⟨b, _, rfl, hb0, hb1, ?_⟩; (try simp only [Nat.zero_add, Nat.mul_one, Nat.add_zero]); exact hbc n (by omega))
       · (refine step_plain rfl (fun m u w3 hm hC hd Q K hK => ?_); obtain ⟨b, o, hu, hb0, hb1, x, hxc, hx2, hx3⟩ := fpt (hd 8 rfl); rw [hu] at hK ⊢; clear hu; go_step; exact hK _ _ rfl hC.same (EvR.refl _ _ _) ⟨x, rfl, hx2, hx3⟩)
       · (refine step_plain rfl (fun m u w3 hm hC hd Q K hK => ?_); have hu := fis (w := w3) (hd 0 rfl); rw [hu] at hK ⊢; clear hu; go_step; exact hK _ _ rfl hC.same (EvR.refl _ _ _) rfl)
       · (refine step_plain rfl (fun m u w3 hm hC hd Q K hK => ?_); obtain ⟨x, hu, hx0, hx1⟩ := fi (w := w3) (hd 9 rfl); rw [hu] at hK ⊢; clear hu; go_step; exact hK _ _ rfl hC.same (EvR.refl _ _ _) ⟨x, rfl, hx0, hx1⟩)
     case hend =>
       intro u w9 hC hF
       have g2 := fis (w := w9) (hF 10 (by omega))
       obtain ⟨a9, g4, hx0, hx1⟩ := fi (w := w9) (hF 11 (by omega))
       rw [g2, g4]
       have ho9 := Lib.hid (OwnSl.from ho (fun g h1 h2 => hC.block g h2 (by omega) (by simp)))
       have hm9 : Mv R w1.heap.size w1 w9 := ⟨hC.os.trans hmq.os, hC.tape.trans hmq.tape, hC.output.trans hmq.output, Nat.le_trans hmq.size hC.size, fun k hk hne => (hC.block k (by omega) hne (by simp)).trans (hmq.block k hk hne)⟩
       have hb9 : Below w.heap.size w w9 := hb1.trans (hm9.below (by omega) (by omega))
       clear hC hF hr
       go_wp2_with fail
       exact bodyPost_ret (v := .tuple #[.slice sa ys.length cap, .int .i64 a9]) (by simp [results, Try.results33, go_sem]) rfl ⟨_, ys, a9, rfl, OwnSl.mono ho9.out (by omega), hl, hb9⟩
end Go.Proofs.Ytfnfpekjjmejnaa
