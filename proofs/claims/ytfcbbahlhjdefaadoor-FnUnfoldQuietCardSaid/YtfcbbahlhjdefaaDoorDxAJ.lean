/- BoxHas, equal lists, what a list decides, the probe; JudgeFlat. -/
import Derived.Test.YtfcbbahlhjdefaaDoorRgX
import Derived.Test.YtfcbbahlhjdefaaDoorBsA
import Derived.Deep.DeepCutAuto
import Derived.Test.YtfcbbahlhjdefaaDoorDt
import Derived.Test.YtfcbbahlhjdefaaDoorFmK
import Derived.Test.YtfcbbahlhjdefaaDoorCuW
import Derived.Laws.StructEq
import Derived.Test.YtfcbbahlhjdefaaDoorFmZ
import Derived.Test.YtfcbbahlhjdefaaDoorProg
/- Drawn packets. -/
namespace Go.Proofs.YtfcbbahlhjdefaaDoor
open Go.RowKit
abbrev Pk.v (p : Pk) : Value := .agg #[.int .i64 p.from_, .int .i64 p.to_, .int .i64 p.port, .int .i64 p.proto]
theorem stored4 {P : Program} {fn : Func} {p : Tmp} {ty : TypeId} {W : World} {tmps : Array Value} {b : Nat} {c0 c1 c2 c3 : Value} (h : fn.results = #[.cell p ty]) (hp : tmps.getD p undef = .pointer (some ⟨b, 0, none⟩))
    (ha : ∀ w, (isAgg ty).run P w = .ok true w) (hz : ∀ w, (sizeOf ty).run P w = .ok 4 w) (hs : ∀ j, j < 4 → (W.cell? ⟨b, j, none⟩).isSome = true) :
    (results fn tmps).run P ((((W.setCell ⟨b, 0, none⟩ c0).setCell ⟨b, 1, none⟩ c1).setCell ⟨b, 2, none⟩ c2).setCell ⟨b, 3, none⟩ c3) = .ok (.agg #[c0, c1, c2, c3]) ((((W.setCell ⟨b, 0, none⟩ c0).setCell ⟨b, 1, none⟩ c1).setCell ⟨b, 2, none⟩ c2).setCell ⟨b, 3, none⟩ c3) :=
  run_resCell (cs := [c0, c1, c2, c3]) h hp ha hz (wSet_cell (g := b) [c0, c1, c2, c3] 0 W (fun j hj => by simpa using hs j (by simpa using hj)))
/-- Four numbers in a block of the call's own. -/
structure Box4 (w : World) (b : Nat) (v0 v1 v2 v3 : Int) : Prop where
  lt : b < w.heap.size
  c0 : w.cell? ⟨b, 0, none⟩ = some (.int .i64 v0)
  c1 : w.cell? ⟨b, 1, none⟩ = some (.int .i64 v1)
  c2 : w.cell? ⟨b, 2, none⟩ = some (.int .i64 v2)
  c3 : w.cell? ⟨b, 3, none⟩ = some (.int .i64 v3)
  frz : ∀ j, w.frozen? ⟨b, j, none⟩ = false
theorem Box4.mv {R B : Nat} {w w' : World} {b : Nat} {v0 v1 v2 v3 : Int} (h : Box4 w b v0 v1 v2 v3) (hm : Mv R B w w') (hb : b < B) (hne : b ≠ R) : Box4 w' b v0 v1 v2 v3 :=
  ⟨Nat.lt_of_lt_of_le h.lt hm.size, (mvC hm b hb hne 0).trans h.c0, (mvC hm b hb hne 1).trans h.c1, (mvC hm b hb hne 2).trans h.c2, (mvC hm b hb hne 3).trans h.c3, fun j => (mvF hm b hb hne j).trans (h.frz j)⟩
theorem Box4.new (w : World) (v0 v1 v2 v3 : Int) (ty : TypeId) : Box4 (w.alloc (.cells #[.int .i64 v0, .int .i64 v1, .int .i64 v2, .int .i64 v3] ty)) w.heap.size v0 v1 v2 v3 :=
  ⟨by simp, by simp, by simp, by simp, by simp, frz_new w _ _⟩
theorem Box4.old {w : World} {b : Nat} {v0 v1 v2 v3 : Int} (h : Box4 w b v0 v1 v2 v3) (o : Obj) : Box4 (w.alloc o) b v0 v1 v2 v3 :=
  h.mv (R := w.heap.size) (B := w.heap.size) (Mv.of_below ((Below.refl _ _).alloc (Nat.le_refl _) _)) h.lt (Nat.ne_of_lt h.lt)
theorem Box4.some {w : World} {b : Nat} {v0 v1 v2 v3 : Int} (h : Box4 w b v0 v1 v2 v3) : ∀ j, j < 4 → (w.cell? ⟨b, j, none⟩).isSome = true := by
  intro j hj
  rcases (by omega : j = 0 ∨ j = 1 ∨ j = 2 ∨ j = 3) with rfl | rfl | rfl | rfl
  · rw [h.c0]; rfl
  · rw [h.c1]; rfl
  · rw [h.c2]; rfl
  · rw [h.c3]; rfl
/-- The drawn packet in the making: the answer's block is the first new one, the variable's block is b. -/
structure PkAll (R : Nat) (bs : List Int) (w : World) (b : Nat) (wx : World) (q : Nat) (v0 v1 v2 v3 : Int) : Prop where
  rd : RdAt R bs wx q
  B : Box4 wx b v0 v1 v2 v3
  A : Box4 wx w.heap.size 0 0 0 0
  mv : Mv R w.heap.size w wx
  hR : R < w.heap.size
  hb : w.heap.size < b
theorem PkAll.mv' {R : Nat} {bs : List Int} {w : World} {b : Nat} {wx wy : World} {q q' : Nat} {v0 v1 v2 v3 : Int} (S : PkAll R bs w b wx q v0 v1 v2 v3) (hr : RdAt R bs wy q') (hm : Mv R wx.heap.size wx wy) : PkAll R bs w b wy q' v0 v1 v2 v3 :=
  ⟨hr, S.B.mv hm S.B.lt (by have := S.hR; have := S.hb; omega), S.A.mv hm S.A.lt (by have := S.hR; omega), S.mv.trans (hm.mono S.mv.size), S.hR, S.hb⟩
theorem PkAll.al {R : Nat} {bs : List Int} {w : World} {b : Nat} {wx : World} {q : Nat} {v0 v1 v2 v3 : Int} (S : PkAll R bs w b wx q v0 v1 v2 v3) (o : Obj) : PkAll R bs w b (wx.alloc o) q v0 v1 v2 v3 :=
  have hb := (Below.refl wx.heap.size wx).alloc (Nat.le_refl _) o
  S.mv' (S.rd.below hb) (Mv.of_below hb)
theorem Box4.set {w : World} {b : Nat} {v0 v1 v2 v3 : Int} (h : Box4 w b v0 v1 v2 v3) (v : Int) :
    Box4 (w.setCell ⟨b, 0, none⟩ (.int .i64 v)) b v v1 v2 v3 ∧ Box4 (w.setCell ⟨b, 1, none⟩ (.int .i64 v)) b v0 v v2 v3 ∧
    Box4 (w.setCell ⟨b, 2, none⟩ (.int .i64 v)) b v0 v1 v v3 ∧ Box4 (w.setCell ⟨b, 3, none⟩ (.int .i64 v)) b v0 v1 v2 v := by
  obtain ⟨l, h0, h1, h2, h3, hf⟩ := h
  have s0 := World.cell?_setCell_same' w ⟨b, 0, none⟩ (.int .i64 v) (by rw [h0]; rfl)
  have s1 := World.cell?_setCell_same' w ⟨b, 1, none⟩ (.int .i64 v) (by rw [h1]; rfl)
  have s2 := World.cell?_setCell_same' w ⟨b, 2, none⟩ (.int .i64 v) (by rw [h2]; rfl)
  have s3 := World.cell?_setCell_same' w ⟨b, 3, none⟩ (.int .i64 v) (by rw [h3]; rfl)
  have o : ∀ i j : Nat, i ≠ j → (w.setCell ⟨b, i, none⟩ (.int .i64 v)).cell? ⟨b, j, none⟩ = w.cell? ⟨b, j, none⟩ := fun i j hij => World.cell?_setCell_other _ _ _ _ (by intro e; exact hij (Addr.mk.inj e).2.1)
  have z : ∀ i : Nat, (w.setCell ⟨b, i, none⟩ (.int .i64 v)).heap.size = w.heap.size := fun i => by simp [World.setCell]
  refine ⟨⟨by rw [z]; exact l, s0, (o 0 1 (by decide)).trans h1, (o 0 2 (by decide)).trans h2, (o 0 3 (by decide)).trans h3, fun j => by simpa using hf j⟩,
    ⟨by rw [z]; exact l, (o 1 0 (by decide)).trans h0, s1, (o 1 2 (by decide)).trans h2, (o 1 3 (by decide)).trans h3, fun j => by simpa using hf j⟩,
    ⟨by rw [z]; exact l, (o 2 0 (by decide)).trans h0, (o 2 1 (by decide)).trans h1, s2, (o 2 3 (by decide)).trans h3, fun j => by simpa using hf j⟩,
    ⟨by rw [z]; exact l, (o 3 0 (by decide)).trans h0, (o 3 1 (by decide)).trans h1, (o 3 2 (by decide)).trans h2, s3, fun j => by simpa using hf j⟩⟩
theorem PkAll.st {R : Nat} {bs : List Int} {w : World} {b : Nat} {wx : World} {q : Nat} {v0 v1 v2 v3 u0 u1 u2 u3 : Int} (S : PkAll R bs w b wx q v0 v1 v2 v3) {j : Nat} {v : Value} (hB : Box4 (wx.setCell ⟨b, j, none⟩ v) b u0 u1 u2 u3) : PkAll R bs w b (wx.setCell ⟨b, j, none⟩ v) q u0 u1 u2 u3 :=
  have hA : Below b wx (wx.setCell ⟨b, j, none⟩ v) := (Below.refl b wx).setCell (p := ⟨b, j, none⟩) (Nat.le_refl b) v
  have hlt := S.hb
  have hR := S.hR
  have hq := Mv.of_below (R := R) hA
  ⟨S.rd.up (hA.mono (by omega)), hB, S.A.mv hq hlt (by omega), S.mv.trans (hq.mono (by omega)), S.hR, S.hb⟩
def PkSt (R : Nat) (bs : List Int) (p : Nat) (w : World) (b : Nat) (wx : World) : Prop :=
  ∃ q v0 v1 v2 v3, PkAll R bs w b wx q v0 v1 v2 v3 ∧ q ≤ p
def DrawnPk (R : Nat) (bs : List Int) (p : Nat) (w : World) (e : Ending) (w' : World) : Prop :=
  ∃ (x : Pk) (q : Nat), e = .returned (Pk.v x) ∧ RdAt R bs w' q ∧ q ≤ p + 20 ∧ Mv R w.heap.size w w'
theorem drawn_end {R : Nat} {bs : List Int} {p : Nat} {w : World} {b : Nat} {wx : World} {q : Nat} {v0 v1 v2 v3 : Int} {fn : Func} {s : Act} (hr : fn.results = #[.cell 4 27]) (hp : s.tmps.getD 4 undef = .pointer (some ⟨w.heap.size, 0, none⟩))
    (hd : s.defers = []) (S : PkAll R bs w b wx q v0 v1 v2 v3) (hq : q ≤ p + 20) :
    bodyPost Tryd.prog fn (DrawnPk R bs p w) Exit.ret s ((((wx.setCell ⟨w.heap.size, 0, none⟩ (.int .i64 v0)).setCell ⟨w.heap.size, 1, none⟩ (.int .i64 v1)).setCell ⟨w.heap.size, 2, none⟩ (.int .i64 v2)).setCell ⟨w.heap.size, 3, none⟩ (.int .i64 v3)) := by
  refine bodyPost_ret (stored4 hr hp Tryd.isAgg27 Tryd.sizeOf27 S.A.some) hd ?_
  have hR := S.hR
  have hb : Below w.heap.size wx ((((wx.setCell ⟨w.heap.size, 0, none⟩ (.int .i64 v0)).setCell ⟨w.heap.size, 1, none⟩ (.int .i64 v1)).setCell ⟨w.heap.size, 2, none⟩ (.int .i64 v2)).setCell ⟨w.heap.size, 3, none⟩ (.int .i64 v3)) := by (repeat' (first | with_reducible exact Below.refl _ _ | with_reducible assumption | with_reducible refine Below.setCell ?_ ?_ _ | with_reducible refine Below.alloc ?_ ?_ _ | with_reducible refine Below.drew ?_ | with_reducible refine belDrewN ?_ _ | with_reducible refine Below.trans ?_ (Below.mono (by assumption) ?_) | omega | (simp; omega) | (simp; done)))
  exact ⟨⟨v0, v1, v2, v3⟩, q, rfl, S.rd.up (hb.mono (by omega)), hq, S.mv.trans (Mv.of_below hb)⟩
set_option maxHeartbeats 4000000 in
theorem drawPk_any (R : Nat) (bs : List Int) (p : Nat) (n : Int) (w : World) (h : RdAt R bs w p) (hp : p ≤ 900000) (hn : n ≤ 1000000) (hn' : -1000000 ≤ n) :
    Calls Tryd.prog 43 #[.pointer (some ⟨R, 0, none⟩), .int .i64 n] w (DrawnPk R bs p w) := by
  have hR := h.lt
  have hA0 := Box4.new w 0 0 0 0 27
  go_enter Tryd.func43, Tryd.ntmps43
  go_wp2_with fail
  refine (pick_any R bs p _ _ (h.up (by (repeat' (first | with_reducible exact Below.refl _ _ | with_reducible assumption | with_reducible refine Below.setCell ?_ ?_ _ | with_reducible refine Below.alloc ?_ ?_ _ | with_reducible refine Below.drew ?_ | with_reducible refine belDrewN ?_ _ | with_reducible refine Below.trans ?_ (Below.mono (by assumption) ?_) | omega | (simp; omega) | (simp; done))))) (by omega) (by omega)).mono ?_
  rintro e w1 ⟨x1, rfl, a1, b1, -, hr1, hm1⟩
  have hz1 := hm1.size; simp at hz1
  have hA1 := hA0.mv hm1 (by simp) (by omega)
  have hq1 : Mv R w.heap.size w w1 := ((Mv.refl _ _ _).alloc (Nat.le_refl _) _).trans (hm1.mono (by simp))
  go_wp2_with fail
  refine (pick_any R bs _ _ _ hr1 (by omega) (by omega)).mono ?_
  rintro e w2 ⟨x2, rfl, a2, b2, -, hr2, hm2⟩
  have hz2 := hm2.size
  have hA2 := hA1.mv hm2 hA1.lt (by omega)
  go_wp2_with fail
  refine (pick_any R bs _ _ _ hr2 (by omega) (by omega)).mono ?_
  rintro e w3 ⟨x3, rfl, a3, b3, -, hr3, hm3⟩
  have hz3 := hm3.size
  have hA3 := hA2.mv hm3 hA2.lt (by omega)
  go_wp2_with fail
  refine (pick_any R bs _ _ _ hr3 (by omega) (by omega)).mono ?_
  rintro e w4 ⟨x4, rfl, a4, b4, -, hr4, hm4⟩
  have hz4 := hm4.size
  have hA4 := hA3.mv hm4 hA3.lt (by omega)
  have hq4 : Mv R w.heap.size w w4 := ((hq1.trans (hm2.mono (by omega))).trans (hm3.mono (by omega))).trans (hm4.mono (by omega))
  have hB4 := Box4.new w4 x1 x2 x3 x4 27
  have hA5 := hA4.old (.cells #[.int .i64 x1, .int .i64 x2, .int .i64 x3, .int .i64 x4] 27)
  clear b1 b2 b3 b4 hm1 hm2 hm3 hm4 hr1 hr2 hr3 hA0 hA1 hA2 hA3 hA4 hq1
  go_wp2_with fail
  refine (pick_any R bs _ _ _ (hr4.up (by (repeat' (first | with_reducible exact Below.refl _ _ | with_reducible assumption | with_reducible refine Below.setCell ?_ ?_ _ | with_reducible refine Below.alloc ?_ ?_ _ | with_reducible refine Below.drew ?_ | with_reducible refine belDrewN ?_ _ | with_reducible refine Below.trans ?_ (Below.mono (by assumption) ?_) | omega | (simp; omega) | (simp; done))))) (by omega) (by omega)).mono ?_
  rintro e w5 ⟨x5, rfl, a5, b5, -, hr5, hm5⟩
  have hz5 := hm5.size; simp at hz5
  have hA := hA5.mv hm5 (by simp; omega) (by omega)
  have hB := hB4.mv hm5 (by simp) (by omega)
  have hq5 : Mv R w.heap.size w w5 := (hq4.alloc (by omega) _).trans (hm5.mono (by simp; omega))
  have ST := Lib.hid (show PkSt R bs (p + 5) w w4.heap.size w5 from ⟨_, _, _, _, _, ⟨hr5, hB, hA, hq5, hR, by omega⟩, by omega⟩)
  clear hm5 hr5 hr4 hA5 hB4 hA hB hq5 hq4
  go_upto_if 17 with (fail)
  go_cut [] (fun wx => PkSt R bs (p + 10) w w4.heap.size wx)
  case first =>
    obtain ⟨q, v0, v1, v2, v3, S, hq⟩ := ST.out
    obtain rfl | rfl : x5 = 0 ∨ x5 = 1 := by omega
    · clear ST
      obtain ⟨l0, c0, c1, c2, c3, cf⟩ := id S.B
      go_wp2_with fail
      refine (pick_any R bs _ _ _ S.rd (by omega) (by omega)).mono ?_; (rintro e w6 ⟨x6, rfl, hax6, hbx6, -, hrx6, hmx6⟩; have hzx6 := hmx6.size; (try simp at hzx6); replace S := S.mv' hrx6 hmx6; (try replace ho := OwnSl.mv ho hmx6 (by omega)); clear hrx6 hmx6)
      go_wp2_with fail
      refine (pick_any R bs _ _ _ S.rd (by omega) (by omega)).mono ?_; (rintro e w7 ⟨x7, rfl, hax7, hbx7, -, hrx7, hmx7⟩; have hzx7 := hmx7.size; (try simp at hzx7); replace S := S.mv' hrx7 hmx7; (try replace ho := OwnSl.mv ho hmx7 (by omega)); clear hrx7 hmx7)
      obtain ⟨l0, c0, c1, c2, c3, cf⟩ := id S.B
      go_wp2_with fail
      replace S := S.st (S.B.set (x6 * 256 + x7)).1
      refine (pick_any R bs _ _ _ S.rd (by omega) (by omega)).mono ?_; (rintro e w8 ⟨x8, rfl, hax8, hbx8, -, hrx8, hmx8⟩; have hzx8 := hmx8.size; (try simp at hzx8); replace S := S.mv' hrx8 hmx8; (try replace ho := OwnSl.mv ho hmx8 (by omega)); clear hrx8 hmx8)
      go_wp2_with fail
      refine (pick_any R bs _ _ _ S.rd (by omega) (by omega)).mono ?_; (rintro e w9 ⟨x9, rfl, hax9, hbx9, -, hrx9, hmx9⟩; have hzx9 := hmx9.size; (try simp at hzx9); replace S := S.mv' hrx9 hmx9; (try replace ho := OwnSl.mv ho hmx9 (by omega)); clear hrx9 hmx9)
      obtain ⟨l0, c0, c1, c2, c3, cf⟩ := id S.B
      go_wp2_with fail
      replace S := S.st (S.B.set (x8 * 16384 + x9)).2.1
      refine (pick_any R bs _ _ _ S.rd (by omega) (by omega)).mono ?_; (rintro e w10 ⟨x10, rfl, hax10, hbx10, -, hrx10, hmx10⟩; have hzx10 := hmx10.size; (try simp at hzx10); replace S := S.mv' hrx10 hmx10; (try replace ho := OwnSl.mv ho hmx10 (by omega)); clear hrx10 hmx10)
      obtain ⟨l0, c0, c1, c2, c3, cf⟩ := id S.B
      go_wp2_with fail
      replace S := S.st (S.B.set x10).2.2.1
      go_meet
      exact ⟨_, _, _, _, _, S, by omega⟩
    · clear ST
      go_wp2_with fail
      go_meet
      exact ⟨_, _, _, _, _, S, by omega⟩
  case rest =>
    obtain ⟨q, v0, v1, v2, v3, S, hq⟩ := hcut
    clear ST
    obtain ⟨l0, c0, c1, c2, c3, cf⟩ := id S.B
    go_wp2_with fail
    refine (odd_any R bs _ _ _ S.rd (by omega) (by omega) (by omega)).mono ?_
    rintro e w6 ⟨x6, q6, rfl, hr6, hq6, hm6⟩
    have hz6 := hm6.size
    replace S := S.mv' hr6 hm6
    clear hr6 hm6
    obtain ⟨l0, c0, c1, c2, c3, cf⟩ := id S.B
    cases x6
    · obtain ⟨a0, d0, d1, d2, d3, df⟩ := id S.A
      go_wp2_with fail
      exact drawn_end rfl rfl rfl S (by omega)
    · go_wp2_with fail
      refine (pick_any R bs _ _ _ S.rd (by omega) (by omega)).mono ?_; (rintro e w7 ⟨x7, rfl, hax7, hbx7, -, hrx7, hmx7⟩; have hzx7 := hmx7.size; (try simp at hzx7); replace S := S.mv' hrx7 hmx7; (try replace ho := OwnSl.mv ho hmx7 (by omega)); clear hrx7 hmx7)
      obtain rfl | rfl | rfl | rfl : x7 = 0 ∨ x7 = 1 ∨ x7 = 2 ∨ x7 = 3 := by omega
      · obtain ⟨l0, c0, c1, c2, c3, cf⟩ := id S.B
        go_wp2_with fail
        replace S := S.al (.cells #[.int .i64 (-1), .int .i64 65536] 3)
        refine (pick_any R bs _ _ _ S.rd (by omega) (by omega)).mono ?_
        rintro e w8 ⟨x8, rfl, ha8, hb8, -, hr8, hm8⟩
        have hz8 := hm8.size
        simp at hz8
        have kn := mvNew hm8 (by simp) (by omega)
        replace S := S.mv' hr8 hm8
        clear hr8 hm8
        obtain ⟨l0, c0, c1, c2, c3, cf⟩ := id S.B
        obtain ⟨a0, d0, d1, d2, d3, df⟩ := id S.A
        have k0 := kn 0
        have k1 := kn 1
        simp at k0 k1
        clear kn
        obtain rfl | rfl : x8 = 0 ∨ x8 = 1 := by omega
        · go_wp2_with fail
          replace S := S.st (S.B.set (-1)).1
          exact drawn_end rfl rfl rfl S (by omega)
        · go_wp2_with fail
          replace S := S.st (S.B.set 65536).1
          exact drawn_end rfl rfl rfl S (by omega)
      · obtain ⟨l0, c0, c1, c2, c3, cf⟩ := id S.B
        go_wp2_with fail
        replace S := S.al (.cells #[.int .i64 (-1), .int .i64 65536] 3)
        refine (pick_any R bs _ _ _ S.rd (by omega) (by omega)).mono ?_
        rintro e w8 ⟨x8, rfl, ha8, hb8, -, hr8, hm8⟩
        have hz8 := hm8.size
        simp at hz8
        have kn := mvNew hm8 (by simp) (by omega)
        replace S := S.mv' hr8 hm8
        clear hr8 hm8
        obtain ⟨l0, c0, c1, c2, c3, cf⟩ := id S.B
        obtain ⟨a0, d0, d1, d2, d3, df⟩ := id S.A
        have k0 := kn 0
        have k1 := kn 1
        simp at k0 k1
        clear kn
        obtain rfl | rfl : x8 = 0 ∨ x8 = 1 := by omega
        · go_wp2_with fail
          replace S := S.st (S.B.set (-1)).2.1
          exact drawn_end rfl rfl rfl S (by omega)
        · go_wp2_with fail
          replace S := S.st (S.B.set 65536).2.1
          exact drawn_end rfl rfl rfl S (by omega)
      · obtain ⟨l0, c0, c1, c2, c3, cf⟩ := id S.B
        go_wp2_with fail
        replace S := S.al (.cells #[.int .i64 (-1), .int .i64 256] 3)
        refine (pick_any R bs _ _ _ S.rd (by omega) (by omega)).mono ?_
        rintro e w8 ⟨x8, rfl, ha8, hb8, -, hr8, hm8⟩
        have hz8 := hm8.size
        simp at hz8
        have kn := mvNew hm8 (by simp) (by omega)
        replace S := S.mv' hr8 hm8
        clear hr8 hm8
        obtain ⟨l0, c0, c1, c2, c3, cf⟩ := id S.B
        obtain ⟨a0, d0, d1, d2, d3, df⟩ := id S.A
        have k0 := kn 0
        have k1 := kn 1
        simp at k0 k1
        clear kn
        obtain rfl | rfl : x8 = 0 ∨ x8 = 1 := by omega
        · go_wp2_with fail
          replace S := S.st (S.B.set (-1)).2.2.1
          exact drawn_end rfl rfl rfl S (by omega)
        · go_wp2_with fail
          replace S := S.st (S.B.set 256).2.2.1
          exact drawn_end rfl rfl rfl S (by omega)
      · obtain ⟨l0, c0, c1, c2, c3, cf⟩ := id S.B
        go_wp2_with fail
        replace S := S.al (.cells #[.int .i64 (-1), .int .i64 8] 3)
        refine (pick_any R bs _ _ _ S.rd (by omega) (by omega)).mono ?_
        rintro e w8 ⟨x8, rfl, ha8, hb8, -, hr8, hm8⟩
        have hz8 := hm8.size
        simp at hz8
        have kn := mvNew hm8 (by simp) (by omega)
        replace S := S.mv' hr8 hm8
        clear hr8 hm8
        obtain ⟨l0, c0, c1, c2, c3, cf⟩ := id S.B
        obtain ⟨a0, d0, d1, d2, d3, df⟩ := id S.A
        have k0 := kn 0
        have k1 := kn 1
        simp at k0 k1
        clear kn
        obtain rfl | rfl : x8 = 0 ∨ x8 = 1 := by omega
        · go_wp2_with fail
          replace S := S.st (S.B.set (-1)).2.2.2
          exact drawn_end rfl rfl rfl S (by omega)
        · go_wp2_with fail
          replace S := S.st (S.B.set 8).2.2.2
          exact drawn_end rfl rfl rfl S (by omega)
end Go.Proofs.YtfcbbahlhjdefaaDoor
/- A range added to a set: the reference's walk. -/
namespace Go.Proofs.YtfcbbahlhjdefaaDoor
open Go.RowKit
/-- Two numbers in a block of the call's own. -/
structure Two (w : World) (b : Nat) (v0 v1 : Int) : Prop where
  lt : b < w.heap.size
  c0 : w.cell? ⟨b, 0, none⟩ = some (.int .i64 v0)
  c1 : w.cell? ⟨b, 1, none⟩ = some (.int .i64 v1)
  frz : ∀ j, w.frozen? ⟨b, j, none⟩ = false
theorem Two.mv {R B : Nat} {w w' : World} {b : Nat} {v0 v1 : Int} (h : Two w b v0 v1) (hm : Mv R B w w') (hb : b < B) (hne : b ≠ R) : Two w' b v0 v1 :=
  ⟨Nat.lt_of_lt_of_le h.lt hm.size, (mvC hm b hb hne 0).trans h.c0, (mvC hm b hb hne 1).trans h.c1, fun j => (mvF hm b hb hne j).trans (h.frz j)⟩
theorem Two.new (w : World) (v0 v1 : Int) (ty : TypeId) : Two (w.alloc (.cells #[.int .i64 v0, .int .i64 v1] ty)) w.heap.size v0 v1 := ⟨by simp, by simp, by simp, frz_new w _ _⟩
theorem Two.old {w : World} {b : Nat} {v0 v1 : Int} (h : Two w b v0 v1) (o : Obj) : Two (w.alloc o) b v0 v1 :=
  h.mv (R := w.heap.size) (B := w.heap.size) (Mv.of_below ((Below.refl _ _).alloc (Nat.le_refl _) _)) h.lt (Nat.ne_of_lt h.lt)
theorem Two.set0 {w : World} {b : Nat} {v0 v1 : Int} (h : Two w b v0 v1) (u : Int) : Two (w.setCell ⟨b, 0, none⟩ (.int .i64 u)) b u v1 := by
  obtain ⟨l, h0, h1, hf⟩ := h
  exact ⟨by simpa [World.setCell] using l, World.cell?_setCell_same' _ _ _ (by rw [h0]; rfl), by rw [World.cell?_setCell_other _ _ _ _ (by simp)]; exact h1, fun j => by simpa using hf j⟩
theorem Two.set1 {w : World} {b : Nat} {v0 v1 : Int} (h : Two w b v0 v1) (u : Int) : Two (w.setCell ⟨b, 1, none⟩ (.int .i64 u)) b v0 u := by
  obtain ⟨l, h0, h1, hf⟩ := h
  exact ⟨by simpa [World.setCell] using l, by rw [World.cell?_setCell_other _ _ _ _ (by simp)]; exact h0, World.cell?_setCell_same' _ _ _ (by rw [h1]; rfl), fun j => by simpa using hf j⟩
end Go.Proofs.YtfcbbahlhjdefaaDoor
namespace Go.Proofs.YtfcbbahlhjdefaaDoor
open Go.RowKit
set_option maxHeartbeats 400000 in
theorem have_one (b : Nat) (w : World) (hb : b < w.heap.size) (h0 : w.cell? ⟨b, 0, none⟩ = some (.int .i64 2)) (h1 : w.cell? ⟨b, 1, none⟩ = some (.int .i64 4)) :
    Calls Tryd.prog 24 #[.slice (some ⟨b, 0, none⟩) 1 1, .int .i64 3] w fun e w' => e = .returned (.bool true) ∧ Below w.heap.size w w' := by
  go_enter Tryd.func24, Tryd.ntmps24
  go_wp2_with fail
  go_loopw [9] (fun i wr => i = .int .i64 0 ∧ Below w.heap.size w wr) (fun _ _ => 0)
  case atStart => exact ⟨rfl, by (repeat' (first | with_reducible exact Below.refl _ _ | with_reducible assumption | with_reducible refine Below.setCell ?_ ?_ _ | with_reducible refine Below.alloc ?_ ?_ _ | with_reducible refine Below.drew ?_ | with_reducible refine belDrewN ?_ _ | with_reducible refine Below.trans ?_ (Below.mono (by assumption) ?_) | omega | (simp; omega) | (simp; done)))⟩
  case round =>
    obtain ⟨rfl, hb2⟩ := hrel
    have c0 := (hb2.cell (p := ⟨b, 0, none⟩) hb).trans h0
    have c1 := (hb2.cell (p := ⟨b, 1, none⟩) hb).trans h1
    have hz2 := hb2.size
    go_wp2
    go_ret
    exact ⟨rfl, by (repeat' (first | with_reducible exact Below.refl _ _ | with_reducible assumption | with_reducible refine Below.setCell ?_ ?_ _ | with_reducible refine Below.alloc ?_ ?_ _ | with_reducible refine Below.drew ?_ | with_reducible refine belDrewN ?_ _ | with_reducible refine Below.trans ?_ (Below.mono (by assumption) ?_) | omega | (simp; omega) | (simp; done)))⟩
set_option maxHeartbeats 400000 in
theorem alive_any (w : World) : Calls Tryd.prog 11 #[] w fun e w' => e = .returned (.bool true) ∧ Below w.heap.size w w' := by
  go_enter Tryd.func11, Tryd.ntmps11
  go_wp2_with fail
  refine (have_one _ _ (by simp) (by simp) (by simp)).mono ?_
  rintro e w1 ⟨rfl, hb1⟩
  go_wp2
  go_ret
  exact ⟨rfl, by (repeat' (first | with_reducible exact Below.refl _ _ | with_reducible assumption | with_reducible refine Below.setCell ?_ ?_ _ | with_reducible refine Below.alloc ?_ ?_ _ | with_reducible refine Below.drew ?_ | with_reducible refine belDrewN ?_ _ | with_reducible refine Below.trans ?_ (Below.mono (by assumption) ?_) | omega | (simp; omega) | (simp; done)))⟩
end Go.Proofs.YtfcbbahlhjdefaaDoor
