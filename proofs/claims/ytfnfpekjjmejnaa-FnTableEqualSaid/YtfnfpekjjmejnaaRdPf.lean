/- Drawn prefixes and entries. -/
import Derived.Test.YtfnfpekjjmejnaaRd
import Derived.Test.YtfnfpekjjmejnaaTbP
import Derived.Test.YtfnfpekjjmejnaaRegRd
import Derived.Deep.DeepCutAuto
namespace Go.Proofs.Ytfnfpekjjmejnaa
open Go.RowKit
theorem Box2.mv {R B : Nat} {w w' : World} {b : Nat} {v0 v1 : Value} (h : Box2 w b v0 v1) (hm : Mv R B w w') (hb : b < B) (hne : b ≠ R) : Box2 w' b v0 v1 :=
  ⟨Nat.lt_of_lt_of_le h.lt hm.size, (mvC hm b hb hne 0).trans h.c0, (mvC hm b hb hne 1).trans h.c1, fun j => (mvF hm b hb hne j).trans (h.frz j)⟩
theorem Box2.set0 {w : World} {b : Nat} {v0 v1 : Value} (h : Box2 w b v0 v1) (u : Value) : Box2 (w.setCell ⟨b, 0, none⟩ u) b u v1 := by
  obtain ⟨l, h0, h1, hf⟩ := h
  exact ⟨by simpa [World.setCell] using l, World.cell?_setCell_same' _ _ _ (by rw [h0]; rfl), by rw [World.cell?_setCell_other _ _ _ _ (by simp)]; exact h1, fun j => by simpa using hf j⟩
theorem Box2.set1 {w : World} {b : Nat} {v0 v1 : Value} (h : Box2 w b v0 v1) (u : Value) : Box2 (w.setCell ⟨b, 1, none⟩ u) b v0 u := by
  obtain ⟨l, h0, h1, hf⟩ := h
  exact ⟨by simpa [World.setCell] using l, by rw [World.cell?_setCell_other _ _ _ _ (by simp)]; exact h0, World.cell?_setCell_same' _ _ _ (by rw [h1]; rfl), fun j => by simpa using hf j⟩
/-- The prefix in the making: the answer's block is the first new one, the variable's block is b. -/
structure PfV (R : Nat) (bs : List Int) (w : World) (b : Nat) (wx : World) (q : Nat) (v0 v1 : Int) : Prop where
  rd : RdAt R bs wx q
  V : Box2 wx b (.int .i64 v0) (.int .i64 v1)
  A : Box2 wx w.heap.size (.int .i64 0) (.int .i64 0)
  mv : Mv R w.heap.size w wx
  hR : R < w.heap.size
  hb : w.heap.size < b
theorem PfV.mv' {R : Nat} {bs : List Int} {w : World} {b : Nat} {wx wy : World} {q q' : Nat} {v0 v1 : Int} (S : PfV R bs w b wx q v0 v1) (hr : RdAt R bs wy q') (hm : Mv R wx.heap.size wx wy) : PfV R bs w b wy q' v0 v1 :=
  ⟨hr, S.V.mv hm S.V.lt (by have := S.hR; have := S.hb; omega), S.A.mv hm S.A.lt (by have := S.hR; omega), S.mv.trans (hm.mono S.mv.size), S.hR, S.hb⟩
theorem PfV.al {R : Nat} {bs : List Int} {w : World} {b : Nat} {wx : World} {q : Nat} {v0 v1 : Int} (S : PfV R bs w b wx q v0 v1) (o : Obj) : PfV R bs w b (wx.alloc o) q v0 v1 :=
  have hb := (Below.refl wx.heap.size wx).alloc (Nat.le_refl _) o
  S.mv' (S.rd.below hb) (Mv.of_below hb)
theorem PfV.st {R : Nat} {bs : List Int} {w : World} {b : Nat} {wx : World} {q : Nat} {v0 v1 u0 u1 : Int} (S : PfV R bs w b wx q v0 v1) {j : Nat} {v : Value} (hB : Box2 (wx.setCell ⟨b, j, none⟩ v) b (.int .i64 u0) (.int .i64 u1)) : PfV R bs w b (wx.setCell ⟨b, j, none⟩ v) q u0 u1 :=
  have hA : Below b wx (wx.setCell ⟨b, j, none⟩ v) := (Below.refl b wx).setCell (p := ⟨b, j, none⟩) (Nat.le_refl b) v
  have hlt := S.hb
  have hR := S.hR
  have hq := Mv.of_below (R := R) hA
  ⟨S.rd.up (hA.mono (by omega)), hB, S.A.mv hq hlt (by omega), S.mv.trans (hq.mono (by omega)), S.hR, S.hb⟩
theorem PfV.drew {R : Nat} {bs : List Int} {w : World} {b : Nat} {wx : World} {q : Nat} {v0 v1 : Int} (S : PfV R bs w b wx q v0 v1) : PfV R bs w b wx.drew q v0 v1 :=
  S.mv' (S.rd.below ⟨rfl, rfl, rfl, Nat.le_refl _, fun _ _ => rfl⟩) (Mv.refl _ _ _).drew
def PfSt (R : Nat) (bs : List Int) (p : Nat) (lo0 hi0 lo1 hi1 : Int) (w : World) (b : Nat) (wx : World) : Prop :=
  ∃ q v0 v1, PfV R bs w b wx q v0 v1 ∧ q ≤ p ∧ lo0 ≤ v0 ∧ v0 ≤ hi0 ∧ lo1 ≤ v1 ∧ v1 ≤ hi1
theorem nameMv' {R B : Nat} {w w' : World} (_ : Mv R B w w') : ∃ x : World, x = w' := ⟨w', rfl⟩
theorem RdAt.drewN' {R : Nat} {bs : List Int} {w : World} {p : Nat} (h : RdAt R bs w p) : RdAt R bs w.drew p := ⟨h.lt, h.code, h.place, h.frz⟩
def DrawnPf (R : Nat) (bs : List Int) (p : Nat) (w : World) (e : Ending) (w' : World) : Prop :=
  ∃ (b l : Int) (q : Nat), e = .returned (.agg #[.int .i64 b, .int .i64 l]) ∧ -1 ≤ b ∧ b ≤ 65536 ∧ -1 ≤ l ∧ l ≤ 17 ∧ RdAt R bs w' q ∧ q ≤ p + 30 ∧ Mv R w.heap.size w w'
set_option maxRecDepth 100000 in
set_option maxHeartbeats 4000000 in
theorem drawPf_any (R : Nat) (bs : List Int) (p : Nat) (n : Int) (w : World) (h : RdAt R bs w p) (hp : p ≤ 900000) (hn : n ≤ 1000000) (hn' : -1000000 ≤ n) :
    Calls Try.prog 57 #[.pointer (some ⟨R, 0, none⟩), .int .i64 n] w (DrawnPf R bs p w) := by
  have hR := h.lt
  have hA0 := Box2.new w (.int .i64 0) (.int .i64 0) 33
  have hr0 := h.below ((Below.refl _ _).alloc (Nat.le_refl _) (.cells #[.int .i64 0, .int .i64 0] 33))
  have hm0 : Mv R w.heap.size w (w.alloc (.cells #[.int .i64 0, .int .i64 0] 33)) := (Mv.refl _ _ _).alloc (Nat.le_refl _) _
  go_enter Try.func57, Try.ntmps57
  go_wp2_with fail
  refine (pick_any R bs p _ _ hr0 (by omega) (by omega)).mono ?_
  rintro e w1 ⟨x1, rfl, x10, x11, -, hr1, hm1⟩
  have hx1 := x11 (by omega)
  have hz1 := hm1.size; simp at hz1
  have hA1 := hA0.mv hm1 (by simp) (by omega)
  replace hm1 := hm0.trans (hm1.mono (by simp))
  clear hA0 hr0 hm0 x11
  go_wp2_with fail
  refine (pick_any R bs _ _ _ hr1 (by omega) (by omega)).mono ?_
  rintro e w2 ⟨x2, rfl, x20, x21, -, hr2, hm2⟩
  have hx2 := x21 (by omega)
  have hz2 := hm2.size
  have hA2 := hA1.mv hm2 (by omega) (by omega)
  replace hm2 := hm1.trans (hm2.mono (by omega))
  clear hA1 hr1 hm1 x21
  go_wp2_with fail
  refine (pick_any R bs _ _ _ (hr2.below ((Below.refl _ _).alloc (Nat.le_refl _) _)) (by omega) (by omega)).mono ?_
  rintro e w3 ⟨x3, rfl, x30, x31, -, hr3, hm3⟩
  have hx3 := x31 (by omega)
  have hz3 := hm3.size; simp at hz3
  obtain ⟨n3, rfl⟩ := Int.eq_ofNat_of_zero_le x30
  have hA3 := (hA2.below ((Below.refl _ _).alloc (Nat.le_refl _) (.cells #[.int .i64 16, .int .i64 (8 + x1), .int .i64 x2] 3))).mv hm3 (by simp; omega) (by omega)
  have hlit := mvNew hm3 (by simp) (by omega)
  obtain ⟨y, hy, hy0, hy1⟩ : ∃ y, w3.cell? ⟨w2.heap.size, n3, none⟩ = some (.int .i64 y) ∧ 0 ≤ y ∧ y ≤ 16 := by
    rw [hlit n3]
    rcases (by omega : n3 = 0 ∨ n3 = 1 ∨ n3 = 2) with rfl | rfl | rfl
    · exact ⟨16, by simp, by omega, by omega⟩
    · exact ⟨8 + x1, by simp, by omega, by omega⟩
    · exact ⟨x2, by simp, by omega, by omega⟩
  replace hm3 := (hm2.alloc (by omega) (.cells #[.int .i64 16, .int .i64 (8 + x1), .int .i64 x2] 3)).trans (hm3.mono (by simp; omega))
  clear hA2 hr2 hm2 x31 hlit
  have S : PfV R bs w w3.heap.size (w3.alloc (.cells #[.int .i64 0, .int .i64 y] 33)) _ 0 y :=
    ⟨hr3.below ((Below.refl _ _).alloc (Nat.le_refl _) _), Box2.new w3 _ _ _, hA3.below ((Below.refl _ _).alloc (Nat.le_refl _) _), hm3.alloc (by omega) _, hR, by omega⟩
  clear hA3 hr3 hm3
  go_wp2_with fail
  refine (pick_any R bs _ _ _ S.rd (by omega) (by omega)).mono ?_
  rintro e w4 ⟨x4, rfl, x40, x41, -, hr4, hm4⟩
  have hx4 := x41 (by omega)
  have hz4 := hm4.size; simp at hz4
  replace S := S.mv' hr4 hm4
  clear hr4 hm4 x41
  go_wp2_with fail
  refine (pick_any R bs _ _ _ S.rd (by omega) (by omega)).mono ?_
  rintro e w5 ⟨x5, rfl, x50, x51, -, hr5, hm5⟩
  have hx5 := x51 (by omega)
  have hz5 := hm5.size
  replace S := S.mv' hr5 hm5
  clear hr5 hm5 x51
  go_wp2_with fail
  replace S := S.al (.cells #[.int .i64 1, .int .i64 64] 3)
  refine (pick_any R bs _ _ _ S.rd (by omega) (by omega)).mono ?_
  rintro e w6 ⟨x6, rfl, x60, x61, -, hr6, hm6⟩
  have hx6 := x61 (by omega)
  have hz6 := hm6.size; simp at hz6
  have hlit := mvNew hm6 (by simp) (by omega)
  replace S := S.mv' hr6 hm6
  obtain ⟨n6, rfl⟩ := Int.eq_ofNat_of_zero_le x60
  obtain ⟨y6, hy6, hy60, hy61, hy62⟩ : ∃ y6, w6.cell? ⟨w5.heap.size, n6, none⟩ = some (.int .i64 y6) ∧ 1 ≤ y6 ∧ 0 ≤ x5 * y6 ∧ x5 * y6 ≤ 16320 := by
    rw [hlit n6]
    rcases (by omega : n6 = 0 ∨ n6 = 1) with rfl | rfl
    · exact ⟨1, by simp, by omega, by omega, by omega⟩
    · exact ⟨64, by simp, by omega, by omega, by omega⟩
  obtain ⟨_, v0, v1, vf⟩ := id S.V
  obtain ⟨m, hmm⟩ := Int.eq_ofNat_of_zero_le (Int.emod_nonneg (x4 * 16384 + x5 * y6) (by omega : (65536 : Int) ≠ 0))
  have hm1 := Int.emod_lt_of_pos (x4 * 16384 + x5 * y6) (by omega : (0 : Int) < 65536)
  obtain ⟨l, rfl⟩ := Int.eq_ofNat_of_zero_le hy0
  have HS := Lib.hid (show PfV R bs w w3.heap.size (w6.setCell ⟨w3.heap.size, 0, none⟩ (.int .i64 m)) _ m l from S.st (S.V.set0 _))
  clear hr6 hm6 x61 hlit S hy
  go_upto_region 3 with (fail)
  rw [hmm]
  clear hy6 v0 v1 vf
  rw [hmm] at hm1
  clear hmm
  have hm1' : m ≤ 65535 := by omega
  have hl16 : l ≤ 16 := by omega
  obtain ⟨t1, t2⟩ := two_le (16 - l) (by omega)
  have hq1 : (0 : Int) ≤ (m : Int) / 2 ^ (16 - l) := Int.ediv_nonneg (by omega) (by omega)
  have hq2 : (m : Int) / 2 ^ (16 - l) ≤ (m : Int) := Int.ediv_le_self _ (by omega)
  have hq3 : (m : Int) / 2 ^ (16 - l) * 2 ^ (16 - l) ≤ (m : Int) := Int.ediv_mul_le _ (by omega)
  have hq4 : (0 : Int) ≤ (m : Int) / 2 ^ (16 - l) * 2 ^ (16 - l) := Int.mul_nonneg hq1 (by omega)
  go_cut [] (fun wx => PfSt R bs (p + 6) 0 65535 0 16 w w3.heap.size wx)
  case first =>
    have S := HS.out
    obtain ⟨_, v0, v1, vf⟩ := id S.V
    clear HS
    go_region
    go_wp2_with fail
    go_meet
    exact ⟨_, _, _, (S.st (S.V.set0 (.int .i64 ((m : Int) / 2 ^ (16 - l) * 2 ^ (16 - l))))).drew, by omega, hq4, by omega, by omega, by omega⟩
  case rest =>
    clear HS
    obtain ⟨q, v0, v1, S, hq, h0, h1, h2, h3⟩ := hcut
    clear t1 t2 hq1 hq2 hq3 hq4 hm1 hm1'
    obtain ⟨wx, rfl⟩ := nameMv' S.mv
    have hbb0 := S.hb
    have hsz := S.mv.size
    have hVlt := S.V.lt
    go_wp2_with fail
    refine (odd_any R bs q _ _ S.rd (by omega) (by omega) (by omega)).mono ?_
    rintro e w8 ⟨b8, q8, rfl, hr8, hq8, hm8⟩
    have hz8 := hm8.size
    replace S := S.mv' hr8 hm8
    clear hr8 hm8
    cases b8
    · go_upto_region 11 with (fail)
      obtain ⟨v0', v1', rfl, rfl⟩ : ∃ a b, a = v0 ∧ b = v1 := ⟨_, _, rfl, rfl⟩
      obtain ⟨_, d0, d1, df⟩ := S.A.set (.int .i64 v0') (.int .i64 v1')
      obtain ⟨hbV, c0, c1, cf⟩ := id S.V
      obtain ⟨hbA, a0', a1', af⟩ := id S.A
      have hmv := S.mv.size
      have hbb := S.hb
      have hrd := Lib.hid S.rd
      have hMV := Lib.hid S.mv
      clear S
      go_wp2_with fail
      exact bodyPost_ret (v := .agg #[.int .i64 v0', .int .i64 v1']) (by simp [results, Try.results57, go_sem, d0, d1]) rfl ⟨v0', v1', _, rfl, by omega, by omega, by omega, by omega, hrd.out.up (by (repeat' (first | with_reducible exact Below.refl _ _ | with_reducible assumption | with_reducible refine Below.setCell ?_ ?_ _ | with_reducible refine Below.alloc ?_ ?_ _ | with_reducible refine Below.drew ?_ | with_reducible refine belDrewN ?_ _ | with_reducible refine Below.trans ?_ (Below.mono (by assumption) ?_) | omega | (simp; omega) | (simp; done)))), by omega, (hMV.out.setCell (by simp) _).setCell (by simp) _⟩
    · go_wp2_with fail
      refine (pick_any R bs _ _ _ S.rd (by omega) (by omega)).mono ?_
      rintro e w9 ⟨x9, rfl, x90, x91, -, hr9, hm9⟩
      have hx9 := x91 (by omega)
      have hz9 := hm9.size
      replace S := S.mv' hr9 hm9
      clear hr9 hm9 x91
      rcases (by omega : x9 = 0 ∨ x9 = 1 ∨ x9 = 2) with rfl | rfl | rfl
      · go_wp2_with fail
        replace S := S.al (.cells #[.int .i64 (-1), .int .i64 17] 3)
        refine (pick_any R bs _ _ _ S.rd (by omega) (by omega)).mono ?_
        rintro e w10 ⟨x10, rfl, x100, x101, -, hr10, hm10⟩
        have hx10 := x101 (by omega)
        have hz10 := hm10.size; simp at hz10
        have hlit := mvNew hm10 (by simp) (by omega)
        replace S := S.mv' hr10 hm10
        obtain ⟨n10, rfl⟩ := Int.eq_ofNat_of_zero_le x100
        obtain ⟨y, hy, hy0, hy1⟩ : ∃ y, w10.cell? ⟨w9.heap.size, n10, none⟩ = some (.int .i64 y) ∧ -1 ≤ y ∧ y ≤ 17 := by
          rw [hlit n10]
          rcases (by omega : n10 = 0 ∨ n10 = 1) with rfl | rfl
          · exact ⟨-1, by simp, by omega, by omega⟩
          · exact ⟨17, by simp, by omega, by omega⟩
        obtain ⟨_, s0, s1, sf⟩ := id S.V
        clear hr10 hm10 x101 hlit
        go_upto_region 11 with (fail)
        replace S := S.st (S.V.set1 (.int .i64 y))
        obtain ⟨v0', v1', rfl, rfl⟩ : ∃ a b, a = v0 ∧ b = y := ⟨_, _, rfl, rfl⟩
        obtain ⟨_, d0, d1, df⟩ := S.A.set (.int .i64 v0') (.int .i64 v1')
        obtain ⟨hbV, c0, c1, cf⟩ := id S.V
        obtain ⟨hbA, a0', a1', af⟩ := id S.A
        have hmv := S.mv.size
        have hbb := S.hb
        have hrd := Lib.hid S.rd
        have hMV := Lib.hid S.mv
        clear S
        go_wp2_with fail
        exact bodyPost_ret (v := .agg #[.int .i64 v0', .int .i64 v1']) (by simp [results, Try.results57, go_sem, d0, d1]) rfl ⟨v0', v1', _, rfl, by omega, by omega, by omega, by omega, hrd.out.up (by (repeat' (first | with_reducible exact Below.refl _ _ | with_reducible assumption | with_reducible refine Below.setCell ?_ ?_ _ | with_reducible refine Below.alloc ?_ ?_ _ | with_reducible refine Below.drew ?_ | with_reducible refine belDrewN ?_ _ | with_reducible refine Below.trans ?_ (Below.mono (by assumption) ?_) | omega | (simp; omega) | (simp; done)))), by omega, (hMV.out.setCell (by simp) _).setCell (by simp) _⟩
      · obtain ⟨m0, rfl⟩ := Int.eq_ofNat_of_zero_le h0
        obtain ⟨z, hz, hz0, hz1⟩ : ∃ z, bits .or .i64 (m0 : Int) 1 = z ∧ 0 ≤ z ∧ z ≤ 65535 := by
          have hlt : m0 ||| 1 < 2 ^ 16 := Nat.or_lt_two_pow (by omega) (by omega)
          exact ⟨((m0 ||| 1 : Nat) : Int), bits_or_i64 m0 1 (by omega) (by omega), by omega, by omega⟩
        have hbb := S.hb
        have hRR := S.hR
        have hlt9 := S.V.lt
        have hM9 := Lib.hid S.mv
        have S9 := Lib.hid S
        clear S
        go_upto_region 10 with (fail)
        refine wp_region_rel2 (fun L x => L.length = 7 ∧ RC R bs (q8 + 1) 1 w9 [w3.heap.size] (fun x => L[6]? = some true ∨ Box2 x w3.heap.size (.int .i64 m0) (.int .i64 v1)) (L.count true) x)
          (fun L i x y => Hof [HIs (.pointer (some ⟨w3.heap.size, 0, none⟩)), HIs (.int .i64 m0), HIs (.int .i64 z), HIs (.pointer (some ⟨R, 0, none⟩)), HV (fun y => ∃ t, y = .int .i64 t ∧ 0 ≤ t ∧ t ≤ 15), HV (fun y => ∃ t, y = .agg #[.int .i64 z, .int .i64 t] ∧ 0 ≤ t ∧ t ≤ 15), HW (fun x _ => ∃ t, Box2 x w3.heap.size (.int .i64 z) (.int .i64 t) ∧ 0 ≤ t ∧ t ≤ 15)] L i x y)
          (by kernel_rfl) (fun u => by simp only [frU, Act.put, List.setIfInBounds_toArray, List.set_cons_succ, List.set_cons_zero, Nat.zero_add, Nat.reduceAdd]; exact rfl) (by kernel_rfl) ?h0 ?hs ?hend
        case h0 => exact ⟨rfl, RC.start S9.out.rd (by omega) (.inr ⟨S9.out.V.lt, S9.out.V.c0, S9.out.V.c1, S9.out.V.frz⟩)⟩
        case hs =>
          have hG : HAll [HIs (.pointer (some ⟨w3.heap.size, 0, none⟩)), HIs (.int .i64 m0), HIs (.int .i64 z), HIs (.pointer (some ⟨R, 0, none⟩)), HV (fun y => ∃ t, y = .int .i64 t ∧ 0 ≤ t ∧ t ≤ 15), HV (fun y => ∃ t, y = .agg #[.int .i64 z, .int .i64 t] ∧ 0 ≤ t ∧ t ≤ 15), HW (fun x _ => ∃ t, Box2 x w3.heap.size (.int .i64 z) (.int .i64 t) ∧ 0 ≤ t ∧ t ≤ 15)] := ⟨hstb_is _, hstb_is _, hstb_is _, hstb_is _, hstb_v _, hstb_v _, hstb_w (fun _ _ _ hb h => by obtain ⟨t, h1, h2⟩ := h; exact ⟨t, h1.below hb, h2⟩), trivial⟩
          refine ⟨?_, ?_, ?_, ?_, ?_, ?_, ?_, trivial⟩
          · refine stepC (fun L u wy hL hC hd hcl => ⟨rfl, fun Q K hK => ?_⟩)
            clear hd
            go_step
            exact hK _ _ rfl ⟨by simpa using hC.1, by rw [count_true_set hL]; exact hC.2.same.yto (fun h => h.imp setKeeps id)⟩ rfl (fun j x hj hL9 h9 => hof_stb _ hG L 0 j _ _ _ (Below.refl _ _) h9)
          · refine stepC (fun L u wy hL hC hd hcl => ⟨rfl, fun Q K hK => ?_⟩)
            have hu0 := his (L := L) (w := wy) (hd 0 rfl).2
            rw [hu0] at hK ⊢
            have gB : Box2 wy w3.heap.size (.int .i64 m0) (.int .i64 v1) := by
              rcases hC.2.y with h | h
              · have := hcl 6 _ rfl h 1 rfl
                rw [hL] at this; cases this
              · exact h
            obtain ⟨_, s0, s1, sf⟩ := gB
            clear hd hcl
            go_step
            exact hK _ _ rfl ⟨by simpa using hC.1, by rw [count_true_set hL]; exact hC.2.same.yto (fun h => h.imp setKeeps id)⟩ rfl (fun j x hj hL9 h9 => hof_stb _ hG L 1 j _ _ _ (Below.refl _ _) h9)
          · refine stepC (fun L u wy hL hC hd hcl => ⟨rfl, fun Q K hK => ?_⟩)
            have hu1 := his (L := L) (w := wy) (hd 1 rfl).2
            rw [hu1] at hK ⊢
            clear hd
            go_step
            exact hK _ _ rfl ⟨by simpa using hC.1, by rw [count_true_set hL]; exact hC.2.same.yto (fun h => h.imp setKeeps id)⟩ rfl (fun j x hj hL9 h9 => hof_stb _ hG L 2 j _ _ _ (Below.refl _ _) h9)
          · refine stepC (fun L u wy hL hC hd hcl => ⟨rfl, fun Q K hK => ?_⟩)
            clear hd
            go_step
            exact hK _ _ rfl ⟨by simpa using hC.1, by rw [count_true_set hL]; exact hC.2.same.yto (fun h => h.imp setKeeps id)⟩ rfl (fun j x hj hL9 h9 => hof_stb _ hG L 3 j _ _ _ (Below.refl _ _) h9)
          · refine stepC (fun L u wy hL hC hd hcl => ⟨rfl, fun Q K hK => ?_⟩)
            have hu3 := his (L := L) (w := wy) (hd 3 rfl).2
            rw [hu3] at hK ⊢
            clear hd
            obtain ⟨qr, hrr, hqr⟩ := hC.2.rd
            have hcnt := count_true_all (L := L)
            have hlen7 := hC.1
            have hlen : qr ≤ 950000 := by omega
            go_step
            refine (pick_any R bs qr _ _ hrr (by omega) (by omega)).mono ?_
            rintro e w11 ⟨x11, rfl, x110, x111, -, hr11, hm11⟩
            refine hK _ _ rfl ?_ ⟨x11, rfl, x110, by omega⟩ ?_
            · refine ⟨by simpa using hC.1, ?_⟩
              rw [count_true_set hL]
              exact RC.yto (RC.mv hC.2 (fun x y hm h => h.imp id (fun h => h.mv hm h.lt (by omega))) hr11 (by omega) hm11) (fun h => h.imp setKeeps id)
            · intro j x hj hLj h
              match j, h with
              | 0, h => exact h
              | 1, h => exact h
              | 2, h => exact h
              | 3, h => exact h
              | 4, _ => exact absurd rfl hj
              | 5, h => exact h
              | 6, _ =>
                have := hcl 6 _ rfl hLj 4 rfl
                rw [hL] at this; cases this
              | j + 7, h => exact h
          · refine stepC (fun L u wy hL hC hd hcl => ⟨rfl, fun Q K hK => ?_⟩)
            have hu2 := his (L := L) (w := wy) (hd 2 rfl).2
            obtain ⟨t, hu4, ht0, ht1⟩ := (hd 4 rfl).2
            rw [hu2, hu4] at hK ⊢
            clear hd
            go_step
            exact hK _ _ rfl ⟨by simpa using hC.1, by rw [count_true_set hL]; exact hC.2.same.yto (fun h => h.imp setKeeps id)⟩ ⟨t, rfl, ht0, ht1⟩ (fun j x hj hL9 h9 => hof_stb _ hG L 5 j _ _ _ (Below.refl _ _) h9)
          · refine stepC (fun L u wy hL hC hd hcl => ⟨rfl, fun Q K hK => ?_⟩)
            obtain ⟨t, hu5, ht0, ht1⟩ := (hd 5 rfl).2
            rw [hu5] at hK ⊢
            have gB : Box2 wy w3.heap.size (.int .i64 m0) (.int .i64 v1) := by
              rcases hC.2.y with h | h
              · rw [hL] at h; cases h
              · exact h
            have gS := gB.set (.int .i64 z) (.int .i64 t)
            obtain ⟨_, s0, s1, sf⟩ := gB
            clear hd hcl
            go_step
            have hmA := (Mv.set w3.heap.size wy.heap.size wy 0 (.int .i64 z)).trans (Mv.set _ _ _ 1 (.int .i64 t))
            refine hK _ _ rfl ?_ ⟨t, gS, ht0, ht1⟩ ?_
            · refine ⟨by simpa using hC.1, ?_⟩
              rw [count_true_set hL]
              exact RC.store (Y := fun x => (L.set 6 true)[6]? = some true ∨ Box2 x w3.heap.size (.int .i64 m0) (.int .i64 v1)) (hC.2.yto (fun _ => .inl (set_now hL))) (by simp) (by omega) hmA (.inl (set_now hL))
            · intro j x hj hLj h
              match j, h with
              | 0, h => exact h
              | 1, h => exact h
              | 2, h => exact h
              | 3, h => exact h
              | 4, h => exact h
              | 5, h => exact h
              | 6, _ => exact absurd rfl hj
              | j + 7, h => exact h
        case hend =>
          intro L u w12 hL hC hF
          obtain ⟨t, hB, ht0, ht1⟩ : ∃ t, Box2 w12 w3.heap.size (.int .i64 z) (.int .i64 t) ∧ 0 ≤ t ∧ t ≤ 15 := hF 6 (by simp)
          have hcnt := count_true_all (L := L)
          rw [hC.1] at hcnt
          replace hC := hC.2
          obtain ⟨qr, hrr, hqr⟩ := hC.rd
          have hAA : Box2 w12 w.heap.size (.int .i64 0) (.int .i64 0) :=
            ⟨Nat.lt_of_lt_of_le S9.out.A.lt hC.size, (hC.cell w.heap.size S9.out.A.lt (by omega) (by simp; omega) 0).trans S9.out.A.c0, (hC.cell w.heap.size S9.out.A.lt (by omega) (by simp; omega) 1).trans S9.out.A.c1, fun j => (World.frozen?_of_block (a := ⟨w.heap.size, j, none⟩) (hC.block w.heap.size S9.out.A.lt (by omega) (by simp; omega))).trans (S9.out.A.frz j)⟩
          have S : PfV R bs w w3.heap.size w12 qr z t := ⟨hrr, hB, hAA, ⟨hC.os.trans hM9.out.os, hC.tape.trans hM9.out.tape, hC.output.trans hM9.out.output, Nat.le_trans hM9.out.size hC.size, fun k hk hne => (hC.block k (by have := hM9.out.size; omega) hne (by simp; omega)).trans (hM9.out.block k hk hne)⟩, hRR, hbb⟩
          clear hC hF hM9 S9 hAA
          obtain ⟨v0', hv0'⟩ : ∃ a, a = z := ⟨_, rfl⟩
          obtain ⟨v1', hv1'⟩ : ∃ a, a = t := ⟨_, rfl⟩
          subst hv0' hv1'
          obtain ⟨_, d0, d1, df⟩ := S.A.set (.int .i64 v0') (.int .i64 v1')
          obtain ⟨hbV, c0, c1, cf⟩ := id S.V
          obtain ⟨hbA, a0', a1', af⟩ := id S.A
          have hmv := S.mv.size
          have hbb := S.hb
          have hrd := Lib.hid S.rd
          have hMV := Lib.hid S.mv
          clear S
          go_wp2_with fail
          exact bodyPost_ret (v := .agg #[.int .i64 v0', .int .i64 v1']) (by simp [results, Try.results57, go_sem, d0, d1]) rfl ⟨v0', v1', _, rfl, by omega, by omega, by omega, by omega, hrd.out.up (by (repeat' (first | with_reducible exact Below.refl _ _ | with_reducible assumption | with_reducible refine Below.setCell ?_ ?_ _ | with_reducible refine Below.alloc ?_ ?_ _ | with_reducible refine Below.drew ?_ | with_reducible refine belDrewN ?_ _ | with_reducible refine Below.trans ?_ (Below.mono (by assumption) ?_) | omega | (simp; omega) | (simp; done)))), by omega, (hMV.out.setCell (by simp) _).setCell (by simp) _⟩
      · go_wp2_with fail
        replace S := S.al (.cells #[.int .i64 (-1), .int .i64 65536] 3)
        refine (pick_any R bs _ _ _ S.rd (by omega) (by omega)).mono ?_
        rintro e w10 ⟨x10, rfl, x100, x101, -, hr10, hm10⟩
        have hx10 := x101 (by omega)
        have hz10 := hm10.size; simp at hz10
        have hlit := mvNew hm10 (by simp) (by omega)
        replace S := S.mv' hr10 hm10
        obtain ⟨n10, rfl⟩ := Int.eq_ofNat_of_zero_le x100
        obtain ⟨y, hy, hy0, hy1⟩ : ∃ y, w10.cell? ⟨w9.heap.size, n10, none⟩ = some (.int .i64 y) ∧ -1 ≤ y ∧ y ≤ 65536 := by
          rw [hlit n10]
          rcases (by omega : n10 = 0 ∨ n10 = 1) with rfl | rfl
          · exact ⟨-1, by simp, by omega, by omega⟩
          · exact ⟨65536, by simp, by omega, by omega⟩
        obtain ⟨_, s0, s1, sf⟩ := id S.V
        clear hr10 hm10 x101 hlit
        go_upto_region 11 with (fail)
        replace S := S.st (S.V.set0 (.int .i64 y))
        obtain ⟨v0', v1', rfl, rfl⟩ : ∃ a b, a = y ∧ b = v1 := ⟨_, _, rfl, rfl⟩
        obtain ⟨_, d0, d1, df⟩ := S.A.set (.int .i64 v0') (.int .i64 v1')
        obtain ⟨hbV, c0, c1, cf⟩ := id S.V
        obtain ⟨hbA, a0', a1', af⟩ := id S.A
        have hmv := S.mv.size
        have hbb := S.hb
        have hrd := Lib.hid S.rd
        have hMV := Lib.hid S.mv
        clear S
        go_wp2_with fail
        exact bodyPost_ret (v := .agg #[.int .i64 v0', .int .i64 v1']) (by simp [results, Try.results57, go_sem, d0, d1]) rfl ⟨v0', v1', _, rfl, by omega, by omega, by omega, by omega, hrd.out.up (by (repeat' (first | with_reducible exact Below.refl _ _ | with_reducible assumption | with_reducible refine Below.setCell ?_ ?_ _ | with_reducible refine Below.alloc ?_ ?_ _ | with_reducible refine Below.drew ?_ | with_reducible refine belDrewN ?_ _ | with_reducible refine Below.trans ?_ (Below.mono (by assumption) ?_) | omega | (simp; omega) | (simp; done)))), by omega, (hMV.out.setCell (by simp) _).setCell (by simp) _⟩
end Go.Proofs.Ytfnfpekjjmejnaa
