/- The laws FnTablePut and FnTableEqual: the draw. -/
import Derived.Test.YtfnfpekjjmejnaaRdTD
import Derived.Test.YtfnfpekjjmejnaaRdEn
namespace Go.Proofs.Ytfnfpekjjmejnaa
open Go.RowKit
def DrewTP (w : World) (e : Ending) (w' : World) : Prop := ∃ v' ys p1 p2 p3, e = .returned (.tuple #[v', .agg #[.int .i64 p1, .int .i64 p2, .int .i64 p3]]) ∧ OwnEn w.heap.size w' v' ys ∧ ys.length ≤ 32 ∧ Below w.heap.size w w'
/-- The list, the reader, the answer's block A and the entry's block V. -/
def TpSt (R : Nat) (bs : List Int) (p : Nat) (w w1 : World) (A V : Nat) (v : Value) (ys : List En) (wx : World) : Prop :=
  TfSt R bs p w1.heap.size w1 v ys wx ∧ Box3 wx A 0 0 0 ∧ (∃ a b c, Box3 wx V a b c) ∧ Below w.heap.size w wx
set_option maxRecDepth 100000 in
set_option maxHeartbeats 1000000 in
theorem drawTP_any (bs : List Int) (v : Value) (w : World) (h : CodeAt w v bs) : Calls Try.prog 40 #[v] w (DrewTP w) := by
  have hB0 := Box3.new w 0 0 0 35
  have hal : Below w.heap.size w (w.alloc (.cells #[.int .i64 0, .int .i64 0, .int .i64 0] 35)) := (Below.refl _ _).alloc (Nat.le_refl _) _
  have h0 : CodeAt (w.alloc (.cells #[.int .i64 0, .int .i64 0, .int .i64 0] 35)) v bs := ⟨h.1.below hal, h.2⟩
  go_enter Try.func40, Try.ntmps40
  go_wp2_with fail
  refine (open_any bs _ _ h0).mono ?_
  rintro e w1 ⟨R, bs', rfl, hR, hr1, hb1⟩
  have hz1 := hb1.size
  simp only [World.size_alloc] at hz1 hR
  have hRlt := hr1.lt
  have hB1 := hB0.below hb1
  have hw1 : Below w.heap.size w w1 := hal.trans (hb1.mono (by simp))
  clear h h0 hB0 hal hb1
  go_wp2_with fail
  refine (drawTb_any R bs' 0 12 _ hr1 (by omega) (by omega) (by omega)).mono ?_
  rintro e w2 ⟨v2, ys, q2, rfl, ho2, hl, hr2, hq2, hm2⟩
  have hz2 := hm2.size
  clear hr1
  have hB2 : Box3 w2 w.heap.size 0 0 0 := hB1.mv hm2 (by omega) (by omega)
  have hb2 : Below w.heap.size w w2 := hw1.trans (hm2.below (by omega) (by omega))
  have hown : ∀ k, v2.ownBlock = some k → k < w2.heap.size := fun k hk => (World.ownsRow.lt ho2 k hk).2
  go_wp2_with fail
  refine (drawEn_any R bs' q2 12 _ hr2 (by omega) (by omega) (by omega)).mono ?_
  rintro e w3 ⟨a, b, c, q3, rfl, hr3, hq3, hm3⟩
  have hz3 := hm3.size
  have ho3 : OwnEn w1.heap.size w3 v2 ys := OwnSl.mvR ho2 hm3 hRlt
  have hB3 : Box3 w3 w.heap.size 0 0 0 := hB2.mv hm3 (by omega) (by omega)
  have hb3 : Below w.heap.size w w3 := hb2.trans (hm3.below (by omega) (by omega))
  have hm13 : Mv R w1.heap.size w1 w3 := hm2.trans (hm3.mono hz2)
  have hal3 : Below w3.heap.size w3 (w3.alloc (.cells #[.int .i64 a, .int .i64 b, .int .i64 c] 35)) := (Below.refl _ _).alloc (Nat.le_refl _) _
  have hV3 := Box3.new w3 a b c 35
  obtain ⟨sa, cap, rfl, hlc, hcm, -⟩ := ho3.ens
  unfold maxLen at hcm
  have ST := Lib.hid (show TpSt R bs' 1281 w w1 w.heap.size w3.heap.size (.slice sa ys.length cap) ys (w3.alloc (.cells #[.int .i64 a, .int .i64 b, .int .i64 c] 35)) from
    ⟨⟨q3, OwnSl.kept ho3 hal3, hr3.below hal3, by omega, hm13.alloc (by omega) _⟩, hB3.below hal3, ⟨a, b, c, hV3⟩, hb3.alloc hb3.size _⟩)
  clear ho2 hr2 hm2 hB1 hB2 hw1 hb2 ho3 hr3 hm3 hB3 hb3 hm13 hal3 hV3
  go_upto_region 4 with (fail)
  generalize hwx : w3.alloc (.cells #[.int .i64 a, .int .i64 b, .int .i64 c] 35) = w4 at *
  clear hwx
  go_cut [20] (fun t wx => ∃ bb, t = .bool bb ∧ (bb = true → 0 < ys.length) ∧ TpSt R bs' 1282 w w1 w.heap.size w3.heap.size (.slice sa ys.length cap) ys wx)
  case first =>
    obtain ⟨⟨q, ho, hr, hq, hmq⟩, hA, ⟨x0, y0, z0, hV⟩, hb⟩ := ST.out
    clear ST
    have hzq := hmq.size
    by_cases h0 : 0 < ys.length
    · go_wp2_with fail
      refine (pick_any R bs' _ _ _ hr (by omega) (by omega)).mono ?_
      rintro e w5 ⟨x4, rfl, a4, b4, -, hr4, hm4⟩
      have b4' := b4 (by omega)
      have hz4 := hm4.size
      have ho4 : OwnEn w1.heap.size w5 _ ys := OwnSl.mvR ho hm4 hRlt
      have hmr4 : Mv R w1.heap.size w1 w5 := hmq.trans (hm4.mono hzq)
      have hA4 := hA.mv hm4 (by omega) (by omega)
      have hV4 := hV.mv hm4 hV.lt (by omega)
      have hb4 : Below w.heap.size w w5 := hb.trans (hm4.below (by omega) (by omega))
      clear ho hr hm4 hmq b4 hA hV hb
      go_wp2_with fail
      go_meet
      exact ⟨_, rfl, fun _ => h0, ⟨_, ho4, hr4, by omega, hmr4⟩, hA4, ⟨_, _, _, hV4⟩, hb4⟩
    · obtain rfl : ys = [] := List.eq_nil_of_length_eq_zero (by omega)
      clear h0
      go_wp2_with fail
      go_meet
      exact ⟨_, rfl, by simp, ⟨q, ho, hr, by omega, hmq⟩, hA, ⟨_, _, _, hV⟩, hb⟩
  case rest =>
   obtain ⟨bb, rfl, hbb, hst⟩ := hcut
   clear ST
   have ST := Lib.hid hst
   clear hst
   go_upto_if 20 with (fail)
   go_cut [] (fun wx => TpSt R bs' 1283 w w1 w.heap.size w3.heap.size (.slice sa ys.length cap) ys wx)
   case first =>
    cases bb
    · obtain ⟨⟨q, ho, hr, hq, hmq⟩, hA, ⟨x0, y0, z0, hV⟩, hb⟩ := ST.out
      go_wp2_with fail
      go_meet
      exact ⟨⟨q, ho, hr, by omega, hmq⟩, hA, ⟨_, _, _, hV⟩, hb⟩
    · have h0 := hbb rfl
      obtain ⟨⟨q, ho, hr, hq, hmq⟩, hA, ⟨x0, y0, z0, hV⟩, hb⟩ := ST.out
      clear ST hbb
      have hzq := hmq.size
      obtain ⟨b', o', -, -, -, rfl, -, -, -, -, -⟩ := (OwnEn.ens ho).at h0
      go_wp2_with fail
      refine (pick_any R bs' _ _ _ hr (by omega) (by omega)).mono ?_
      rintro e w5 ⟨x4, rfl, a4, b4, -, hr4, hm4⟩
      have b4' := b4 (by omega)
      obtain ⟨k, rfl⟩ := Int.eq_ofNat_of_zero_le a4
      have hkl : k < ys.length := by omega
      have hz4 := hm4.size
      have ho4 : OwnEn w1.heap.size w5 _ ys := OwnSl.mvR ho hm4 hRlt
      have hmr4 : Mv R w1.heap.size w1 w5 := hmq.trans (hm4.mono hzq)
      have hA4 := hA.mv hm4 (by omega) (by omega)
      have hV4 := hV.mv hm4 hV.lt (by omega)
      have hb4 : Below w.heap.size w w5 := hb.trans (hm4.below (by omega) (by omega))
      have hVlt := hV4.lt
      obtain ⟨eb, eo, f1, f2, f3, he, hbl, hx, c0, c1, c2⟩ := (OwnEn.ens ho4).at hkl
      obtain ⟨rfl, rfl, -⟩ := Addr.mk.inj (Option.some.inj he)
      obtain ⟨_, v0, v1, v2', vf⟩ := id hV4
      have hV5 := (hV4.set f1).1
      have hV6 := (hV5.set f2).2.1
      have hbV : b' ≠ w3.heap.size := by
        have := hown b' rfl
        omega
      have hne3 : ∀ k : Nat, k < w5.heap.size → k ≠ w3.heap.size → ((w5.setCell ⟨w3.heap.size, 0, none⟩ (.int .i64 f1)).setCell ⟨w3.heap.size, 1, none⟩ (.int .i64 f2)).heap[k]? = w5.heap[k]? := fun k _ hk => (Below.heap_setCell _ _ _ _ hk).trans (Below.heap_setCell _ _ _ _ hk)
      have hB6 : Below w3.heap.size w5 ((w5.setCell ⟨w3.heap.size, 0, none⟩ (.int .i64 f1)).setCell ⟨w3.heap.size, 1, none⟩ (.int .i64 f2)) := by (repeat' (first | with_reducible exact Below.refl _ _ | with_reducible assumption | with_reducible refine Below.setCell ?_ ?_ _ | with_reducible refine Below.alloc ?_ ?_ _ | with_reducible refine Below.drew ?_ | with_reducible refine belDrewN ?_ _ | with_reducible refine Below.trans ?_ (Below.mono (by assumption) ?_) | omega | (simp; omega) | (simp; done)))
      have ho6 : OwnEn w1.heap.size ((w5.setCell ⟨w3.heap.size, 0, none⟩ (.int .i64 f1)).setCell ⟨w3.heap.size, 1, none⟩ (.int .i64 f2)) (.slice (some ⟨b', o', none⟩) ys.length cap) ys := by
        refine OwnSl.apart (u := .slice (some ⟨w3.heap.size, 0, none⟩) 0 0) ho4 ⟨hB6.os, hB6.tape, hB6.output, hB6.size, fun j hj hne => hne3 j hj (fun e => hne (by rw [e]; rfl))⟩ (fun j hj hu => ?_)
        cases hj; cases hu; exact hbV rfl
      have hr6 := hr4.up (hB6.mono (by omega))
      have hA6 : Box3 ((w5.setCell ⟨w3.heap.size, 0, none⟩ (.int .i64 f1)).setCell ⟨w3.heap.size, 1, none⟩ (.int .i64 f2)) w.heap.size 0 0 0 :=
        ⟨Nat.lt_of_lt_of_le hA4.lt hB6.size, (hB6.cell (p := ⟨w.heap.size, 0, none⟩) (by simp; omega)).trans hA4.c0, (hB6.cell (p := ⟨w.heap.size, 1, none⟩) (by simp; omega)).trans hA4.c1, (hB6.cell (p := ⟨w.heap.size, 2, none⟩) (by simp; omega)).trans hA4.c2, fun j => (hB6.frozen (p := ⟨w.heap.size, j, none⟩) (by simp; omega)).trans (hA4.frz j)⟩
      have hm6 : Mv R w1.heap.size w1 ((w5.setCell ⟨w3.heap.size, 0, none⟩ (.int .i64 f1)).setCell ⟨w3.heap.size, 1, none⟩ (.int .i64 f2)) := hmr4.trans ((Mv.of_below hB6).mono (by omega))
      have hbb6 : Below w.heap.size w ((w5.setCell ⟨w3.heap.size, 0, none⟩ (.int .i64 f1)).setCell ⟨w3.heap.size, 1, none⟩ (.int .i64 f2)) := hb4.trans (hB6.mono (by omega))
      have HF := Lib.hid (show TpSt R bs' 1283 w w1 w.heap.size w3.heap.size (.slice (some ⟨b', o', none⟩) ys.length cap) ys ((w5.setCell ⟨w3.heap.size, 0, none⟩ (.int .i64 f1)).setCell ⟨w3.heap.size, 1, none⟩ (.int .i64 f2)) from
        ⟨⟨_, ho6, hr6, by omega, hm6⟩, hA6, ⟨_, _, _, hV6⟩, hbb6⟩)
      clear ho hr hm4 hmq b4 hA hV hb ho4 hmr4 hA4 hV4 hb4 hV5 hV6 hne3 hB6 ho6 hr6 hA6 hm6 hbb6 hx c2 he hr4
      go_wp2_with fail
      go_meet
      exact HF.out
   case rest =>
    clear ST
    obtain ⟨⟨q, ho, hr, hq, hmq⟩, hA, ⟨x0, y0, z0, hV⟩, hb⟩ := hcut
    obtain ⟨wx, rfl⟩ := nameMv hmq
    have hzq := hmq.size
    obtain ⟨l0, d0, d1, d2, df⟩ := (((hA.set x0).1.set y0).2.1.set z0).2.2
    obtain ⟨lV, c0, c1, c2, cf⟩ := id hV
    obtain ⟨lA, a0, a1, a2, af⟩ := id hA
    have hne : w.heap.size ≠ w3.heap.size := by omega
    have hHB : ∀ k, k < wx.heap.size → k ≠ w.heap.size → (((wx.setCell ⟨w.heap.size, 0, none⟩ (.int .i64 x0)).setCell ⟨w.heap.size, 1, none⟩ (.int .i64 y0)).setCell ⟨w.heap.size, 2, none⟩ (.int .i64 z0)).heap[k]? = wx.heap[k]? := fun k _ hk => (Below.heap_setCell _ _ _ _ hk).trans ((Below.heap_setCell _ _ _ _ hk).trans (Below.heap_setCell _ _ _ _ hk))
    have HO9 := Lib.hid (show OwnEn w1.heap.size (((wx.setCell ⟨w.heap.size, 0, none⟩ (.int .i64 x0)).setCell ⟨w.heap.size, 1, none⟩ (.int .i64 y0)).setCell ⟨w.heap.size, 2, none⟩ (.int .i64 z0)) (.slice sa ys.length cap) ys from OwnEn.setB ho (by omega) hHB)
    have HB := Lib.hid hb
    clear ho hr hA hV hHB hb hmq hown
    go_wp2_with fail
    go_region
    go_wp2_with fail
    exact bodyPost_ret (v := .tuple #[.slice sa ys.length cap, .agg #[.int .i64 x0, .int .i64 y0, .int .i64 z0]]) (by simp [results, Try.results40, go_sem, d0, d1, d2]) rfl ⟨_, ys, x0, y0, z0, rfl, OwnSl.mono HO9.out (by omega), hl, by have := HB.out; (repeat' (first | with_reducible exact Below.refl _ _ | with_reducible assumption | with_reducible refine Below.setCell ?_ ?_ _ | with_reducible refine Below.alloc ?_ ?_ _ | with_reducible refine Below.drew ?_ | with_reducible refine belDrewN ?_ _ | with_reducible refine Below.trans ?_ (Below.mono (by assumption) ?_) | omega | (simp; omega) | (simp; done)))⟩
end Go.Proofs.Ytfnfpekjjmejnaa
