/- Drawn tables. -/
import Derived.Test.YtfnfpekjjmejnaaRdEn
import Derived.Test.YtfnfpekjjmejnaaRegI
namespace Go.Proofs.Ytfnfpekjjmejnaa
open Go.RowKit
theorem OwnSl.mvR {α : Type} {R base e sz : Nat} {enc : α → List Value} {w w' : World} {v : Value} {ys : List α} (h : OwnSl base e sz enc w v ys) (hm : Mv R w.heap.size w w') (hR : R < base) : OwnSl base e sz enc w' v ys :=
  h.from (fun g h1 h2 => hm.block g h2 (by omega))
theorem tput_ok (xs : List En) (e : En) : (∀ y ∈ (tput xs e).1, y.ok = true) ∧ (tput xs e).1.length ≤ 30 := by
  unfold tput
  split
  · rename_i h
    simp only [Bool.and_eq_true] at h
    obtain ⟨h1, h2⟩ := h
    obtain ⟨hl, hg⟩ := (tvalid_iff xs).1 h1
    have hx : ∀ y ∈ xs, y.ok = true := by
      intro y hy
      obtain ⟨i, hi, rfl⟩ := List.mem_iff_getElem.1 hy
      exact (hg i _ hi (List.getElem?_eq_getElem hi)).1
    have hp := place_le e.w xs
    split
    · refine ⟨fun y hy => ?_, by simpa using hl⟩
      rcases List.mem_or_eq_of_mem_set hy with h | h
      · exact hx y h
      · rw [h]; exact h2
    · split
      · exact ⟨hx, hl⟩
      · refine ⟨fun y hy => ?_, by simp; omega⟩
        simp only [List.mem_append, List.mem_singleton] at hy
        rcases hy with (hy | hy) | hy
        · exact hx y (List.mem_of_mem_take hy)
        · rw [hy]; exact h2
        · exact hx y (List.mem_of_mem_drop hy)
  · exact ⟨by simp, by simp⟩
def FInt : WV := fun _ v => ∃ x, v = .int .i64 x
def FP (P : Value → Prop) : WV := fun _ v => P v
def FEn (base : Nat) : WV := fun w v => ∃ v' ys b, v = .tuple #[v', .bool b] ∧ OwnEn base w v' ys ∧ (∀ y ∈ ys, y.ok = true) ∧ ys.length ≤ 30
def FEn1 (base : Nat) : WV := fun w v => ∃ ys, OwnEn base w v ys ∧ (∀ y ∈ ys, y.ok = true) ∧ ys.length ≤ 30
theorem stb_p (B : Nat) (X : World → Prop) (P : Value → Prop) : Stb B X (FP P) := fun _ _ _ _ h => h
theorem stb_en (B base : Nat) (X : World → Prop) (h : B ≤ base) : Stb B X (FEn base) := fun _ _ _ he ⟨v', ys, b, h1, h2, h3⟩ => ⟨v', ys, b, h1, h2.from (fun g g1 g2 => he.block g (by omega) g2), h3⟩
theorem stb_en1 (B base : Nat) (X : World → Prop) (h : B ≤ base) : Stb B X (FEn1 base) := fun _ _ _ he ⟨ys, h2, h3⟩ => ⟨ys, h2.from (fun g g1 g2 => he.block g (by omega) g2), h3⟩
theorem fen {base : Nat} {w : World} {v : Value} (h : FEn base w v) : ∃ v' ys b, v = .tuple #[v', .bool b] ∧ OwnEn base w v' ys ∧ (∀ y ∈ ys, y.ok = true) ∧ ys.length ≤ 30 := h
theorem fp {P : Value → Prop} {w : World} {v : Value} (h : FP P w v) : P v := h
def TbSt (R : Nat) (bs : List Int) (p : Nat) (w : World) (v : Value) (wx : World) : Prop :=
  ∃ ys q, OwnEn w.heap.size wx v ys ∧ ys.length ≤ 30 ∧ (∀ y ∈ ys, y.ok = true) ∧ RdAt R bs wx q ∧ q ≤ p ∧ Mv R w.heap.size w wx
def DrawnTb (R : Nat) (bs : List Int) (p : Nat) (w : World) (e : Ending) (w' : World) : Prop :=
  ∃ v' ys q, e = .returned v' ∧ OwnEn w.heap.size w' v' ys ∧ ys.length ≤ 32 ∧ RdAt R bs w' q ∧ q ≤ p + 1200 ∧ Mv R w.heap.size w w'
set_option maxRecDepth 100000 in
set_option maxHeartbeats 4000000 in
theorem drawTb_any (R : Nat) (bs : List Int) (p : Nat) (n : Int) (w : World) (h : RdAt R bs w p) (hp : p ≤ 700000) (hn : n ≤ 1000000) (hn' : -1000000 ≤ n) :
    Calls Try.prog 47 #[.pointer (some ⟨R, 0, none⟩), .int .i64 n] w (DrawnTb R bs p w) := by
  have hR := h.lt
  go_enter Try.func47, Try.ntmps47
  go_wp2_with fail
  refine (pick_any R bs p _ _ (h.below ((Below.refl _ _).alloc (Nat.le_refl _) _)) (by omega) (by omega)).mono ?_
  rintro e w1 ⟨x1, rfl, a1, b1, -, hr1, hm1⟩
  have hz1 := hm1.size; simp at hz1
  have hq1 : Mv R w.heap.size w w1 := ((Mv.refl _ _ _).alloc (Nat.le_refl _) _).trans (hm1.mono (by simp))
  have hown1 : OwnEn w.heap.size w1 (.slice (some ⟨w.heap.size, 0, none⟩) 0 0) [] := OwnSl.mvR (OwnEn.lit (Nat.le_refl _)) hm1 hR
  have b1' := b1 (by omega)
  go_wp2_with fail
  go_loopw [5, 6] (fun v i wr => ∃ k, i = .int .i64 k ∧ k ≤ 8 ∧ 0 ≤ k ∧ ∃ ys q, OwnEn w.heap.size wr v ys ∧ ys.length ≤ 30 ∧ (∀ y ∈ ys, y.ok = true) ∧ RdAt R bs wr q ∧ (q : Int) + 120 * k ≤ p + 961 ∧ Mv R w.heap.size w wr) (fun _ i _ => (intOf i).toNat)
  case atStart => exact ⟨x1, rfl, by omega, a1, [], p + 1, hown1, by simp, by simp, hr1, by omega, hq1⟩
  case round =>
    obtain ⟨k, rfl, hk8, hk0, ys, q, hown, hlen, hok, hr, hq, hmr⟩ := hrel
    have hzr := hmr.size
    clear hown1 hr1 hm1 hq1 b1 b1'
    by_cases hk : 0 < k
    · go_wp2_with fail
      refine (drawEn_any R bs q 0 _ hr (by omega) (by omega) (by omega)).mono ?_
      rintro e w2 ⟨a, b, c, q2, rfl, hr2, hq2, hm2⟩
      have hz2 := hm2.size
      have ho2 : OwnEn w.heap.size w2 _ ys := OwnSl.mvR hown hm2 hR
      have hmr2 : Mv R w.heap.size w w2 := hmr.trans (hm2.mono hzr)
      clear hown hr hm2 hmr hok
      go_wp2_with fail
      refine (specTP_any ys _ a b c _ ho2.ens).mono ?_
      obtain ⟨hok3, hlen3⟩ := tput_ok ys ⟨⟨a, b⟩, c⟩
      generalize (tput ys ⟨⟨a, b⟩, c⟩).1 = zs at *
      generalize (tput ys ⟨⟨a, b⟩, c⟩).2 = bb at *
      rintro e w3 ⟨v3, rfl, ho3, hb3⟩
      have hz3 := hb3.size
      have hr3 := hr2.below hb3
      have hm3 : Mv R w.heap.size w w3 := hmr2.trans (Mv.of_below (hb3.mono (by omega)))
      have ho3' : OwnEn w.heap.size w3 v3 zs := OwnSl.mono ho3 (by omega)
      clear ho2 hr2 hb3 hmr2 ho3
      obtain ⟨sa, cap, rfl, hlc, hcm, -⟩ := ho3'.ens
      unfold maxLen at hcm
      have hz03 := hm3.size
      by_cases h0 : 0 < zs.length
      · go_wp2_with fail
        refine (pick_any R bs _ _ _ hr3 (by omega) (by omega)).mono ?_
        rintro e w4 ⟨x4, rfl, a4, b4, -, hr4, hm4⟩
        have b4' := b4 (by omega)
        have hz4 := hm4.size
        have ho4 : OwnEn w.heap.size w4 _ zs := OwnSl.mvR ho3' hm4 hR
        have hmr4 : Mv R w.heap.size w w4 := hm3.trans (hm4.mono hz03)
        clear ho3' hr3 hm4 hm3 b4
        obtain rfl | rfl : x4 = 0 ∨ x4 = 1 := by omega
        · go_wp2_with fail
          refine (pick_any R bs _ _ _ hr4 (by omega) (by omega)).mono ?_
          rintro e w5 ⟨x5, rfl, a5, b5, -, hr5, hm5⟩
          have b5' := b5 (by omega)
          have hz5 := hm5.size
          have ho5 : OwnEn w.heap.size w5 _ zs := OwnSl.mvR ho4 hm5 hR
          have hmr5 : Mv R w.heap.size w w5 := hmr4.trans (hm5.mono (by omega))
          clear ho4 hr4 hm5 hmr4 b5
          obtain ⟨m, rfl⟩ := Int.eq_ofNat_of_zero_le a5
          have hm5 : m < zs.length := by omega
          obtain ⟨eb, eo, f1, f2, f3, rfl, hbl, hx, c0, c1, c2⟩ := ho5.ens.at hm5
          have hok1 : Pf.ok ⟨f1, f2⟩ = true := by
            have := hok3 _ (List.mem_of_getElem? hx)
            simp only [En.ok, Bool.and_eq_true] at this
            exact this.1
          obtain ⟨⟨l0, l1⟩, -, -⟩ := (pf_ok_iff _).1 hok1
          simp only at l0 l1
          have HX := Lib.hid hx
          have HOK := Lib.hid hok1
          have HOK3 := Lib.hid hok3
          have hb0 := Box2.new w5 (.int .i64 f1) (.int .i64 f2) 33
          clear hx hok1 hok3
          go_wp2_with fail
          refine (pick_any R bs _ _ _ (hr5.below ((Below.refl _ _).alloc (Nat.le_refl _) _)) (by omega) (by omega)).mono ?_
          rintro e w6 ⟨x6, rfl, a6, b6, -, hr6, hm6⟩
          have b6' := b6 (by omega)
          have hz6 := hm6.size; simp at hz6
          have hb6 := hb0.mv hm6 (by simp) (by omega)
          have ho6 : OwnEn w.heap.size w6 _ zs := OwnSl.mvR (OwnSl.kept ho5 ((Below.refl _ _).alloc (Nat.le_refl _) _)) hm6 hR
          have hmr6 : Mv R w.heap.size w w6 := (hmr5.alloc (by omega) _).trans (hm6.mono (by simp; omega))
          clear ho5 hr5 hm6 hmr5 b6 hb0 c0 c1 c2
          obtain ⟨j, rfl⟩ := Int.eq_ofNat_of_zero_le a6
          have hj : j ≤ 16 := by omega
          obtain ⟨_, d0, d1, -⟩ := id hb6
          have hY : ∀ x y : World, Mv R x.heap.size x y → True → True := fun _ _ _ _ => trivial
          have hX : ∀ x y : World, Mv R x.heap.size x y → True → True := fun _ _ _ _ => trivial
          have HO6 := Lib.hid ho6
          have HC6 := Lib.hid d0
          clear ho6 d0 d1 hb6 HX HOK
          go_upto_region 9 with (fail)
          refine wp_region_relI (N := 19) (RC R bs _ 1 w6 [] (fun _ => True)) (EvR w.heap.size (fun _ => True))
            (Fof [FIs (.slice (some ⟨eb, eo, none⟩) zs.length cap), FIs (.pointer (some ⟨w5.heap.size, 0, none⟩)), FIs (.int .i64 f1), FIs (.int .i64 j), FIs (.int .i64 (16 - j)), FInt, FIs (.int .i64 j), FIs (.int .i64 (16 - j)), FInt, FIs (.int .i64 j), FP (fun v => ∃ x, v = .agg #[.int .i64 x, .int .i64 j]), FIs (.pointer (some ⟨R, 0, none⟩)), FI 0 2, FP (fun v => ∃ x y, v = .agg #[.int .i64 x, .int .i64 j, .int .i64 y]), FEn w.heap.size, FEn w.heap.size, FEn1 w.heap.size, FAny, FEn1 w.heap.size])
            (by kernel_rfl) rfl (fun u => by simp only [frU, Act.put, List.setIfInBounds_toArray, List.set_cons_succ, List.set_cons_zero, Nat.zero_add, Nat.reduceAdd]; exact rfl) (by kernel_rfl) (stb_of _ ?hst) (RC.start hr6 (Nat.le_refl _) trivial) ?hs ?hend
          case hst => exact ⟨stb_is _ _ _, stb_is _ _ _, stb_is _ _ _, stb_is _ _ _, stb_is _ _ _, stb_p _ _ _, stb_is _ _ _, stb_is _ _ _, stb_p _ _ _, stb_is _ _ _, stb_p _ _ _, stb_is _ _ _, stb_i _ _ _ _, stb_p _ _ _, stb_en _ _ _ (Nat.le_refl _), stb_en _ _ _ (Nat.le_refl _), stb_en1 _ _ _ (Nat.le_refl _), stb_any _ _, stb_en1 _ _ _ (Nat.le_refl _), trivial⟩
          case hs =>
            refine ⟨?_, StepOk.toI ?_, StepOk.toI ?_, StepOk.toI ?_, StepOk.toI ?_, StepOk.toI ?_, StepOk.toI ?_, StepOk.toI ?_, StepOk.toI ?_, StepOk.toI ?_, StepOk.toI ?_, StepOk.toI ?_, StepOk.toI ?_, StepOk.toI ?_, StepOk.toI ?_, StepOk.toI ?_, StepOk.toI ?_, StepOk.toI ?_, StepOk.toI ?_, trivial⟩
            · refine stepI rfl (fun m u w3 hm hC hd hin Q K hK => ?_)
              have hu : u 18 = .slice (some ⟨eb, eo, none⟩) zs.length cap := hin 18 _ rfl (by kernel_rfl)
              rw [hu] at hK ⊢
              (go_step; exact hK _ _ rfl hC.same (EvR.refl _ _ _) rfl)
            · (refine step_plain rfl (fun m u w3 hm hC hd Q K hK => ?_); (go_step; exact hK _ _ rfl hC.same (EvR.refl _ _ _) rfl))
            · refine step_plain rfl (fun m u w3 hm hC hd Q K hK => ?_)
              have hu := fis (w := w3) (hd 1 rfl); rw [hu] at hK ⊢; clear hu
              have kc := (hC.cell w5.heap.size (by omega) (by omega) (by simp) 0).trans HC6.out
              go_step
              exact hK _ _ rfl hC.same (EvR.refl _ _ _) rfl
            · (refine step_plain rfl (fun m u w3 hm hC hd Q K hK => ?_); (go_step; exact hK _ _ rfl hC.same (EvR.refl _ _ _) rfl))
            · refine step_plain rfl (fun m u w3 hm hC hd Q K hK => ?_)
              have hu := fis (w := w3) (hd 3 rfl); rw [hu] at hK ⊢; clear hu
              (go_step; exact hK _ _ rfl hC.same (EvR.refl _ _ _) rfl)
            · refine step_plain rfl (fun m u w3 hm hC hd Q K hK => ?_)
              have hu := fis (w := w3) (hd 2 rfl); rw [hu] at hK ⊢; clear hu
              have hu := fis (w := w3) (hd 4 rfl); rw [hu] at hK ⊢; clear hu
              (go_step; exact hK _ _ rfl hC.same (EvR.refl _ _ _) ⟨_, rfl⟩)
            · (refine step_plain rfl (fun m u w3 hm hC hd Q K hK => ?_); (go_step; exact hK _ _ rfl hC.same (EvR.refl _ _ _) rfl))
            · refine step_plain rfl (fun m u w3 hm hC hd Q K hK => ?_)
              have hu := fis (w := w3) (hd 6 rfl); rw [hu] at hK ⊢; clear hu
              (go_step; exact hK _ _ rfl hC.same (EvR.refl _ _ _) rfl)
            · refine step_plain rfl (fun m u w3 hm hC hd Q K hK => ?_)
              obtain ⟨x, hu⟩ := fp (w := w3) (hd 5 rfl); rw [hu] at hK ⊢; clear hu
              have hu := fis (w := w3) (hd 7 rfl); rw [hu] at hK ⊢; clear hu
              (go_step; exact hK _ _ rfl hC.same (EvR.refl _ _ _) ⟨_, rfl⟩)
            · (refine step_plain rfl (fun m u w3 hm hC hd Q K hK => ?_); (go_step; exact hK _ _ rfl hC.same (EvR.refl _ _ _) rfl))
            · refine step_plain rfl (fun m u w3 hm hC hd Q K hK => ?_)
              obtain ⟨x, hu⟩ := fp (w := w3) (hd 8 rfl); rw [hu] at hK ⊢; clear hu
              have hu := fis (w := w3) (hd 9 rfl); rw [hu] at hK ⊢; clear hu
              (go_step; exact hK _ _ rfl hC.same (EvR.refl _ _ _) ⟨x, rfl⟩)
            · (refine step_plain rfl (fun m u w3 hm hC hd Q K hK => ?_); (go_step; exact hK _ _ rfl hC.same (EvR.refl _ _ _) rfl))
            · (refine step_plain rfl (fun m u w3 hm hC hd Q K hK => ?_); have hu := fis (w := w3) (hd 11 rfl); rw [hu] at hK ⊢; clear hu; obtain ⟨qr, hr, hqr⟩ := hC.rd; go_step; refine (pick_any R _ qr _ _ hr (by omega) (by omega)).mono ?_; rintro e w4 ⟨x, rfl, hx0, hx1, hx2, hr4, hm4⟩; exact hK _ _ rfl (hC.mv hY hr4 (by omega) hm4) (EvR.mv hX (by omega) hm4) ⟨x, rfl, hx0, by omega⟩)
            · refine step_plain rfl (fun m u w3 hm hC hd Q K hK => ?_)
              obtain ⟨x, hu⟩ := fp (w := w3) (hd 10 rfl); rw [hu] at hK ⊢; clear hu
              obtain ⟨y, hu, hy0, hy1⟩ := fi (w := w3) (hd 12 rfl); rw [hu] at hK ⊢; clear hu
              (go_step; exact hK _ _ rfl hC.same (EvR.refl _ _ _) ⟨x, y, rfl⟩)
            · refine step_plain rfl (fun m u w3 hm hC hd Q K hK => ?_)
              have hu := fis (w := w3) (hd 0 rfl); rw [hu] at hK ⊢; clear hu
              obtain ⟨x, y, hu⟩ := fp (w := w3) (hd 13 rfl); rw [hu] at hK ⊢; clear hu
              obtain ⟨qr, hr, hqr⟩ := hC.rd
              have ho7 := HO6.out.from (fun g h1 h2 => hC.block g h2 (by omega) (by simp))
              have hsz := hC.size
              go_step
              refine (specTP_any zs _ x j y _ (OwnEn.ens ho7)).mono ?_
              obtain ⟨hok7, hlen7⟩ := tput_ok zs ⟨⟨x, j⟩, y⟩
              rintro e w4 ⟨v4, rfl, ho4, hb4⟩
              exact hK _ _ rfl (hC.mv hY (hr.below hb4) (by omega) (Mv.of_below hb4)) (EvR.mv hX (by omega) (Mv.of_below (R := R) hb4)) ⟨_, _, _, rfl, OwnSl.mono ho4 (by omega), hok7, hlen7⟩
            · refine step_plain rfl (fun m u w3 hm hC hd Q K hK => ?_)
              obtain ⟨v7, y7, b7, hu, g7⟩ := fen (hd 14 rfl); rw [hu] at hK ⊢; clear hu
              (go_step; exact hK _ _ rfl hC.same (EvR.refl _ _ _) ⟨v7, y7, b7, rfl, g7⟩)
            · refine step_plain rfl (fun m u w3 hm hC hd Q K hK => ?_)
              obtain ⟨v7, y7, b7, hu, g7⟩ := fen (hd 15 rfl); rw [hu] at hK ⊢; clear hu
              (go_step; exact hK _ _ rfl hC.same (EvR.refl _ _ _) ⟨y7, g7⟩)
            · refine step_plain rfl (fun m u w3 hm hC hd Q K hK => ?_)
              obtain ⟨v7, y7, b7, hu, g7⟩ := fen (hd 15 rfl); rw [hu] at hK ⊢; clear hu
              (go_step; exact hK _ _ rfl hC.same (EvR.refl _ _ _) trivial)
            · refine step_plain rfl (fun m u w3 hm hC hd Q K hK => ?_)
              obtain ⟨y7, g7⟩ := hd 16 rfl
              (go_step; exact hK _ _ rfl hC.same (EvR.refl _ _ _) ⟨y7, g7⟩)
          case hend =>
            intro u w9 hC hF
            obtain ⟨y9, ho9, hok9, hl9⟩ : FEn1 w.heap.size w9 (u 18) := hF 18 (by omega)
            obtain ⟨q9, hr9, hq9⟩ := hC.rd
            have hm9 : Mv R w.heap.size w w9 := ⟨hC.os.trans hmr6.os, hC.tape.trans hmr6.tape, hC.output.trans hmr6.output, Nat.le_trans hmr6.size hC.size, fun k hk hne => (hC.block k (by omega) hne (by simp)).trans (hmr6.block k hk hne)⟩
            clear hC hF hr6 HC6 HOK3 HO6
            generalize u 18 = v9 at *
            go_wp2_with fail
            go_roundw
            case rel => exact ⟨k - 1, by go_num, by omega, by omega, y9, _, ho9, hl9, hok9, hr9, by omega, hm9⟩
            case measure => simp [intOf]; omega
        · go_wp2_with fail
          go_roundw
          case rel => exact ⟨k - 1, by go_num, by omega, by omega, zs, _, ho4, hlen3, hok3, hr4, by omega, hmr4⟩
          case measure => simp [intOf]; omega
      · obtain rfl : zs = [] := List.eq_nil_of_length_eq_zero (by omega)
        clear h0
        go_wp2_with fail
        go_roundw
        case rel => exact ⟨k - 1, by go_num, by omega, by omega, [], _, ho3', hlen3, hok3, hr3, by omega, hm3⟩
        case measure => simp [intOf]; omega
    · obtain rfl : k = 0 := by omega
      go_wp2_with fail
      refine (odd_any R bs q n _ hr (by omega) (by omega) (by omega)).mono ?_
      rintro e w2 ⟨x2, q2, rfl, hr2, hq2, hm2⟩
      have hz2 := hm2.size
      have hown2 : OwnEn w.heap.size w2 _ ys := OwnSl.mvR hown hm2 hR
      have hmq : Mv R w.heap.size w w2 := hmr.trans (hm2.mono hzr)
      have hzq := hmq.size
      clear hown hr hm2 hmr hok
      obtain ⟨i0, hi, hy0, hy1, hy2⟩ := info_parts infoEn
      cases x2
      · go_wp2_with fail
        go_ret
        exact ⟨_, ys, q2, rfl, hown2, by omega, hr2, by omega, hmq⟩
      · go_wp2_with fail
        refine (pick_any R bs _ _ _ hr2 (by omega) (by omega)).mono ?_
        rintro e w3 ⟨x3, rfl, a3, b3, -, hr3, hm3⟩
        have b3' := b3 (by omega)
        have hz3 := hm3.size
        have hown3 : OwnEn w.heap.size w3 _ ys := OwnSl.mvR hown2 hm3 hR
        have hm3' : Mv R w.heap.size w w3 := hmq.trans (hm3.mono hzq)
        clear hown2 hr2 hm3 hmq b3
        obtain ⟨sa, cap, hsv, hlc, hcm, -⟩ := hown3.ens
        unfold maxLen at hcm
        subst hsv
        obtain rfl | rfl | rfl : x3 = 0 ∨ x3 = 1 ∨ x3 = 2 := by omega
        · go_wp2_with fail
          refine (drawEn_any R bs _ 1 _ hr3 (by omega) (by omega) (by omega)).mono ?_
          rintro e w4 ⟨a, b, c, q4, rfl, hr4, hq4, hm4⟩
          have hz4 := hm4.size
          have HO := Lib.hid (OwnSl.mvR hown3 hm4 hR)
          have hm4' : Mv R w.heap.size w w4 := hm3'.trans (hm4.mono (by omega))
          clear hown3 hr3 hm4
          go_wp2_with (at_builtin; refine wpList_append_own _ rfl _ _ 25 rfl w.heap.size 35 i0 _ 3 24 Try.underlying25 hi hy0 hy1 hy2 rfl (by decide) _ _ _ rfl (World.ownsRow.alloc HO.out _) ⟨w4.heap.size, 0, none⟩ 1 1 (En.enc ⟨⟨a, b⟩, c⟩) rfl rfl ?c1 ?c2 ?c3 ?c4 ?c5 ?_)
          case c1 => exact cellsNew w4 (En.enc ⟨⟨a, b⟩, c⟩) _
          case c2 => simp [Value.oneCell']
          case c3 => simp only [maxLen]; omega
          case c4 => omega
          case c5 => simp; omega
          · intro v' w5 hown5 hgrow5 _
            have hB5 : Below w.heap.size w4 w5 := belGrown ((Below.refl _ _).alloc (by omega) _) (World.ownsRow.alloc HO.out _) hgrow5 (by simp; omega)
            have hr5 := hr4.up (hB5.mono (by omega))
            have hm5 := hm4'.trans (Mv.of_below hB5)
            have HO5 : OwnEn w.heap.size w5 v' (ys ++ [⟨⟨a, b⟩, c⟩]) := OwnSl.pushed rfl hown5
            clear hown5 hgrow5
            go_wp2
            go_ret
            exact ⟨v', _, _, rfl, HO5, by simp; omega, hr5, by omega, hm5⟩
        · have HO := Lib.hid hown3
          go_wp2_with (at_builtin; refine wpList_append_own _ rfl _ _ 25 rfl w.heap.size 35 i0 _ 3 24 Try.underlying25 hi hy0 hy1 hy2 rfl (by decide) _ _ _ rfl (World.ownsRow.alloc HO.out _) ⟨w3.heap.size, 0, none⟩ 2 2 (En.enc ⟨⟨9, 16⟩, 0⟩ ++ En.enc ⟨⟨9, 16⟩, 0⟩) rfl rfl ?c1 ?c2 ?c3 ?c4 ?c5 ?_)
          case c1 => exact cellsNew w3 (En.enc ⟨⟨9, 16⟩, 0⟩ ++ En.enc ⟨⟨9, 16⟩, 0⟩) _
          case c2 => simp [Value.oneCell']
          case c3 => simp only [maxLen]; omega
          case c4 => omega
          case c5 => simp; omega
          · intro v' w5 hown5 hgrow5 _
            have hB5 : Below w.heap.size w3 w5 := belGrown ((Below.refl _ _).alloc (by omega) _) (World.ownsRow.alloc HO.out _) hgrow5 (by simp; omega)
            have hr5 := hr3.up (hB5.mono (by omega))
            have hm5 := hm3'.trans (Mv.of_below hB5)
            have HO5 : OwnEn w.heap.size w5 v' (ys ++ [⟨⟨9, 16⟩, 0⟩, ⟨⟨9, 16⟩, 0⟩]) := by unfold OwnEn OwnSl; simpa using! hown5
            clear hown5 hgrow5
            go_wp2
            go_ret
            exact ⟨v', _, _, rfl, HO5, by simp; omega, hr5, by omega, hm5⟩
        · go_wp2_with (at_make; refine wpList_make_full _ rfl _ _ 25 rfl w.heap.size 35 i0 _ 3 Try.underlying25 hi hy0 hy1 _ _ _ _ 31 rfl rfl rfl rfl ?b1 ?b2 ?b3 ?_)
          case b1 => rw [hy2]; omega
          case b2 => simp only [maxLen]; omega
          case b3 => omega
          intro w5 hown5 hgrow5
          have hB5 : Below w.heap.size w3 w5 := (Below.refl _ _).grown hgrow5 (by omega) (fun k hk => by cases hk)
          have HO5 : OwnEn w.heap.size w5 (.slice (some ⟨w3.heap.size, 0, none⟩) 31 31) (List.replicate 31 (⟨⟨0, 0⟩, 0⟩ : En)) := by
            unfold OwnEn OwnSl
            rw [List.length_replicate, ← madeFlat (sz := 3) (enc := En.enc) (fun _ => rfl) (by omega) (.agg #[.int .i64 0, .int .i64 0, .int .i64 0]) ⟨⟨0, 0⟩, 0⟩ rfl]
            exact hown5
          have hr5 := hr3.up (hB5.mono (by omega))
          have hm5 := hm3'.trans (Mv.of_below hB5)
          clear hown5 hgrow5
          go_wp2
          go_ret
          exact ⟨_, _, _, rfl, HO5, by simp, hr5, by omega, hm5⟩
end Go.Proofs.Ytfnfpekjjmejnaa
