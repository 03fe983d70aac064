/- Drawn entries. -/
import Derived.Test.YtfnfpekjjmejnaaRdPf
namespace Go.Proofs.Ytfnfpekjjmejnaa
open Go.RowKit
/-- Three numbers in a block of the call's own. -/
structure Box3 (w : World) (b : Nat) (v0 v1 v2 : Int) : Prop where
  lt : b < w.heap.size
  c0 : w.cell? ⟨b, 0, none⟩ = some (.int .i64 v0)
  c1 : w.cell? ⟨b, 1, none⟩ = some (.int .i64 v1)
  c2 : w.cell? ⟨b, 2, none⟩ = some (.int .i64 v2)
  frz : ∀ j, w.frozen? ⟨b, j, none⟩ = false
theorem Box3.mv {R B : Nat} {w w' : World} {b : Nat} {v0 v1 v2 : Int} (h : Box3 w b v0 v1 v2) (hm : Mv R B w w') (hb : b < B) (hne : b ≠ R) : Box3 w' b v0 v1 v2 :=
  ⟨Nat.lt_of_lt_of_le h.lt hm.size, (mvC hm b hb hne 0).trans h.c0, (mvC hm b hb hne 1).trans h.c1, (mvC hm b hb hne 2).trans h.c2, fun j => (mvF hm b hb hne j).trans (h.frz j)⟩
theorem Box3.new (w : World) (v0 v1 v2 : Int) (ty : TypeId) : Box3 (w.alloc (.cells #[.int .i64 v0, .int .i64 v1, .int .i64 v2] ty)) w.heap.size v0 v1 v2 :=
  ⟨by simp, by simp, by simp, by simp, frz_new w _ _⟩
theorem Box3.below {w w' : World} {b : Nat} {v0 v1 v2 : Int} (h : Box3 w b v0 v1 v2) (hb : Below w.heap.size w w') : Box3 w' b v0 v1 v2 :=
  ⟨Nat.lt_of_lt_of_le h.lt hb.size, (hb.cell h.lt).trans h.c0, (hb.cell h.lt).trans h.c1, (hb.cell h.lt).trans h.c2, fun j => (hb.frozen h.lt).trans (h.frz j)⟩
theorem Box3.set {w : World} {b : Nat} {v0 v1 v2 : Int} (h : Box3 w b v0 v1 v2) (v : Int) :
    Box3 (w.setCell ⟨b, 0, none⟩ (.int .i64 v)) b v v1 v2 ∧ Box3 (w.setCell ⟨b, 1, none⟩ (.int .i64 v)) b v0 v v2 ∧ Box3 (w.setCell ⟨b, 2, none⟩ (.int .i64 v)) b v0 v1 v := by
  obtain ⟨l, h0, h1, h2, hf⟩ := h
  have s0 := World.cell?_setCell_same' w ⟨b, 0, none⟩ (.int .i64 v) (by rw [h0]; rfl)
  have s1 := World.cell?_setCell_same' w ⟨b, 1, none⟩ (.int .i64 v) (by rw [h1]; rfl)
  have s2 := World.cell?_setCell_same' w ⟨b, 2, none⟩ (.int .i64 v) (by rw [h2]; rfl)
  have o : ∀ i j : Nat, i ≠ j → (w.setCell ⟨b, i, none⟩ (.int .i64 v)).cell? ⟨b, j, none⟩ = w.cell? ⟨b, j, none⟩ := fun i j hij => World.cell?_setCell_other _ _ _ _ (by intro e; exact hij (Addr.mk.inj e).2.1)
  have z : ∀ i : Nat, (w.setCell ⟨b, i, none⟩ (.int .i64 v)).heap.size = w.heap.size := fun i => by simp [World.setCell]
  exact ⟨⟨by rw [z]; exact l, s0, (o 0 1 (by decide)).trans h1, (o 0 2 (by decide)).trans h2, fun j => by simpa using hf j⟩,
    ⟨by rw [z]; exact l, (o 1 0 (by decide)).trans h0, s1, (o 1 2 (by decide)).trans h2, fun j => by simpa using hf j⟩,
    ⟨by rw [z]; exact l, (o 2 0 (by decide)).trans h0, (o 2 1 (by decide)).trans h1, s2, fun j => by simpa using hf j⟩⟩
structure EnV (R : Nat) (bs : List Int) (w : World) (b : Nat) (wx : World) (q : Nat) (v0 v1 v2 : Int) : Prop where
  rd : RdAt R bs wx q
  V : Box3 wx b v0 v1 v2
  A : Box3 wx w.heap.size 0 0 0
  mv : Mv R w.heap.size w wx
  hR : R < w.heap.size
  hb : w.heap.size < b
theorem EnV.mv' {R : Nat} {bs : List Int} {w : World} {b : Nat} {wx wy : World} {q q' : Nat} {v0 v1 v2 : Int} (S : EnV R bs w b wx q v0 v1 v2) (hr : RdAt R bs wy q') (hm : Mv R wx.heap.size wx wy) : EnV R bs w b wy q' v0 v1 v2 :=
  ⟨hr, S.V.mv hm S.V.lt (by have := S.hR; have := S.hb; omega), S.A.mv hm S.A.lt (by have := S.hR; omega), S.mv.trans (hm.mono S.mv.size), S.hR, S.hb⟩
theorem EnV.al {R : Nat} {bs : List Int} {w : World} {b : Nat} {wx : World} {q : Nat} {v0 v1 v2 : Int} (S : EnV R bs w b wx q v0 v1 v2) (o : Obj) : EnV R bs w b (wx.alloc o) q v0 v1 v2 :=
  have hb := (Below.refl wx.heap.size wx).alloc (Nat.le_refl _) o
  S.mv' (S.rd.below hb) (Mv.of_below hb)
theorem EnV.st {R : Nat} {bs : List Int} {w : World} {b : Nat} {wx : World} {q : Nat} {v0 v1 v2 u0 u1 u2 : Int} (S : EnV R bs w b wx q v0 v1 v2) {j : Nat} {v : Value} (hB : Box3 (wx.setCell ⟨b, j, none⟩ v) b u0 u1 u2) : EnV R bs w b (wx.setCell ⟨b, j, none⟩ v) q u0 u1 u2 :=
  have hA : Below b wx (wx.setCell ⟨b, j, none⟩ v) := (Below.refl b wx).setCell (p := ⟨b, j, none⟩) (Nat.le_refl b) v
  have hlt := S.hb
  have hR := S.hR
  have hq := Mv.of_below (R := R) hA
  ⟨S.rd.up (hA.mono (by omega)), hB, S.A.mv hq hlt (by omega), S.mv.trans (hq.mono (by omega)), S.hR, S.hb⟩
def DrawnEn (R : Nat) (bs : List Int) (p : Nat) (w : World) (e : Ending) (w' : World) : Prop :=
  ∃ (b l v : Int) (q : Nat), e = .returned (.agg #[.int .i64 b, .int .i64 l, .int .i64 v]) ∧ RdAt R bs w' q ∧ q ≤ p + 80 ∧ Mv R w.heap.size w w'
set_option maxHeartbeats 4000000 in
theorem drawEn_any (R : Nat) (bs : List Int) (p : Nat) (n : Int) (w : World) (h : RdAt R bs w p) (hp : p ≤ 800000) (hn : n ≤ 1000000) (hn' : -1000000 ≤ n) :
    Calls Try.prog 61 #[.pointer (some ⟨R, 0, none⟩), .int .i64 n] w (DrawnEn R bs p w) := by
  have hR := h.lt
  have hA0 := Box3.new w 0 0 0 35
  have hr0 := h.below ((Below.refl _ _).alloc (Nat.le_refl _) (.cells #[.int .i64 0, .int .i64 0, .int .i64 0] 35))
  have hm0 : Mv R w.heap.size w (w.alloc (.cells #[.int .i64 0, .int .i64 0, .int .i64 0] 35)) := (Mv.refl _ _ _).alloc (Nat.le_refl _) _
  go_enter Try.func61, Try.ntmps61
  go_wp2_with fail
  refine (drawPf_any R bs p _ _ hr0 (by omega) (by omega) (by omega)).mono ?_
  rintro e w1 ⟨b1, l1, q1, rfl, -, -, -, -, hr1, hq1, hm1⟩
  have hz1 := hm1.size; simp at hz1
  have hA1 := hA0.mv hm1 (by simp) (by omega)
  replace hm1 := hm0.trans (hm1.mono (by simp))
  clear hA0 hr0 hm0
  go_wp2_with fail
  refine (pick_any R bs _ _ _ hr1 (by omega) (by omega)).mono ?_
  rintro e w2 ⟨x2, rfl, x20, x21, -, hr2, hm2⟩
  have hz2 := hm2.size
  have hA2 := hA1.mv hm2 (by omega) (by omega)
  replace hm2 := hm1.trans (hm2.mono (by omega))
  have S : EnV R bs w w2.heap.size (w2.alloc (.cells #[.int .i64 b1, .int .i64 l1, .int .i64 x2] 35)) _ b1 l1 x2 :=
    ⟨hr2.below ((Below.refl _ _).alloc (Nat.le_refl _) _), Box3.new w2 _ _ _ _, hA2.below ((Below.refl _ _).alloc (Nat.le_refl _) _), hm2.alloc (by omega) _, hR, by omega⟩
  clear hA1 hr1 hm1 x21 hA2 hr2 hm2
  go_wp2_with fail
  refine (odd_any R bs _ _ _ S.rd (by omega) (by omega) (by omega)).mono ?_
  rintro e w3 ⟨b3, q3, rfl, hr3, hq3, hm3⟩
  have hz3 := hm3.size; simp at hz3
  replace S := S.mv' hr3 hm3
  clear hr3 hm3
  cases b3
  · obtain ⟨_, d0, d1, d2, df⟩ := (((S.A.set b1).1.set l1).2.1.set x2).2.2
    obtain ⟨hbV, c0, c1, c2, cf⟩ := id S.V
    obtain ⟨hbA, a0', a1', a2', af⟩ := id S.A
    have hmv := S.mv.size
    have hbb := S.hb
    have hrd := Lib.hid S.rd
    have hMV := Lib.hid S.mv
    clear S
    go_wp2_with fail
    exact bodyPost_ret (v := .agg #[.int .i64 b1, .int .i64 l1, .int .i64 x2]) (by simp [results, Try.results61, go_sem, d0, d1, d2]) rfl ⟨_, _, _, _, rfl, hrd.out.up (by (repeat' (first | with_reducible exact Below.refl _ _ | with_reducible assumption | with_reducible refine Below.setCell ?_ ?_ _ | with_reducible refine Below.alloc ?_ ?_ _ | with_reducible refine Below.drew ?_ | with_reducible refine belDrewN ?_ _ | with_reducible refine Below.trans ?_ (Below.mono (by assumption) ?_) | omega | (simp; omega) | (simp; done)))), by omega, ((hMV.out.setCell (by simp) _).setCell (by simp) _).setCell (by simp) _⟩
  · go_wp2_with fail
    refine (pick_any R bs _ _ _ S.rd (by omega) (by omega)).mono ?_
    rintro e w4 ⟨x4, rfl, x40, x41, -, hr4, hm4⟩
    have hx4 := x41 (by omega)
    have hz4 := hm4.size
    replace S := S.mv' hr4 hm4
    clear hr4 hm4 x41
    rcases (by omega : x4 = 0 ∨ x4 = 1) with rfl | rfl
    · go_wp2_with fail
      replace S := S.al (.cells #[.int .i64 (-1), .int .i64 100] 3)
      refine (pick_any R bs _ _ _ S.rd (by omega) (by omega)).mono ?_
      rintro e w10 ⟨x10, rfl, x100, x101, -, hr10, hm10⟩
      have hx10 := x101 (by omega)
      have hz10 := hm10.size; simp at hz10
      have hlit := mvNew hm10 (by simp) (by omega)
      replace S := S.mv' hr10 hm10
      obtain ⟨n10, rfl⟩ := Int.eq_ofNat_of_zero_le x100
      obtain ⟨y, hy⟩ : ∃ y, w10.cell? ⟨w4.heap.size, n10, none⟩ = some (.int .i64 y) := by
        rw [hlit n10]
        rcases (by omega : n10 = 0 ∨ n10 = 1) with rfl | rfl
        · exact ⟨-1, by simp⟩
        · exact ⟨100, by simp⟩
      obtain ⟨_, s0, s1, s2, sf⟩ := id S.V
      clear hr10 hm10 x101 hlit
      go_upto_region 6 with (fail)
      replace S := S.st (S.V.set y).2.2
      obtain ⟨_, d0, d1, d2, df⟩ := (((S.A.set b1).1.set l1).2.1.set y).2.2
      obtain ⟨hbV, c0, c1, c2, cf⟩ := id S.V
      obtain ⟨hbA, a0', a1', a2', af⟩ := id S.A
      have hmv := S.mv.size
      have hbb := S.hb
      have hrd := Lib.hid S.rd
      have hMV := Lib.hid S.mv
      clear S
      go_wp2_with fail
      exact bodyPost_ret (v := .agg #[.int .i64 b1, .int .i64 l1, .int .i64 y]) (by simp [results, Try.results61, go_sem, d0, d1, d2]) rfl ⟨_, _, _, _, rfl, hrd.out.up (by (repeat' (first | with_reducible exact Below.refl _ _ | with_reducible assumption | with_reducible refine Below.setCell ?_ ?_ _ | with_reducible refine Below.alloc ?_ ?_ _ | with_reducible refine Below.drew ?_ | with_reducible refine belDrewN ?_ _ | with_reducible refine Below.trans ?_ (Below.mono (by assumption) ?_) | omega | (simp; omega) | (simp; done)))), by omega, ((hMV.out.setCell (by simp) _).setCell (by simp) _).setCell (by simp) _⟩
    · go_wp2_with fail
      refine (drawPf_any R bs _ _ _ S.rd (by omega) (by omega) (by omega)).mono ?_
      rintro e w5 ⟨b5, l5, q5, rfl, -, -, -, -, hr5, hq5, hm5⟩
      have hz5 := hm5.size
      replace S := S.mv' hr5 hm5
      obtain ⟨_, s0, s1, s2, sf⟩ := id S.V
      clear hr5 hm5
      go_upto_region 6 with (fail)
      replace S := S.st (S.V.set b5).1
      replace S := S.st (S.V.set l5).2.1
      obtain ⟨_, d0, d1, d2, df⟩ := (((S.A.set b5).1.set l5).2.1.set x2).2.2
      obtain ⟨hbV, c0, c1, c2, cf⟩ := id S.V
      obtain ⟨hbA, a0', a1', a2', af⟩ := id S.A
      have hmv := S.mv.size
      have hbb := S.hb
      have hrd := Lib.hid S.rd
      have hMV := Lib.hid S.mv
      clear S
      go_wp2_with fail
      exact bodyPost_ret (v := .agg #[.int .i64 b5, .int .i64 l5, .int .i64 x2]) (by simp [results, Try.results61, go_sem, d0, d1, d2]) rfl ⟨_, _, _, _, rfl, hrd.out.up (by (repeat' (first | with_reducible exact Below.refl _ _ | with_reducible assumption | with_reducible refine Below.setCell ?_ ?_ _ | with_reducible refine Below.alloc ?_ ?_ _ | with_reducible refine Below.drew ?_ | with_reducible refine belDrewN ?_ _ | with_reducible refine Below.trans ?_ (Below.mono (by assumption) ?_) | omega | (simp; omega) | (simp; done)))), by omega, ((hMV.out.setCell (by simp) _).setCell (by simp) _).setCell (by simp) _⟩
end Go.Proofs.Ytfnfpekjjmejnaa
