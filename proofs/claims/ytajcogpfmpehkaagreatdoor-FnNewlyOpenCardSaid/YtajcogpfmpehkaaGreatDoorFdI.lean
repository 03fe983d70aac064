/- Witnesses: the program's walks. -/
import Derived.Test.YtajcogpfmpehkaaGreatDoorPaJ
import Derived.Test.YtajcogpfmpehkaaGreatDoorRgH
import Derived.Test.YtajcogpfmpehkaaGreatDoorCuW
namespace Go.Proofs.YtajcogpfmpehkaaGreatDoor
open Go.RowKit
theorem ftouch_none_succ {A B : List Bx} {k : Nat} {x : Bx} (hx : A[k]? = some x) (h : ftouch (A.take k) B = none) (h2 : B.findSome? (bcom x) = none) : ftouch (A.take (k + 1)) B = none := by
  unfold ftouch at h ⊢
  rw [List.take_add_one, hx, Option.toList_some, List.findSome?_append, h]
  simp [h2]
theorem findSome_succ {α β : Type} {f : α → Option β} {B : List α} {j : Nat} {y : α} (hy : B[j]? = some y) (h : (B.take j).findSome? f = none) (h2 : f y = none) : (B.take (j + 1)).findSome? f = none := by
  rw [List.take_add_one, hy, Option.toList_some, List.findSome?_append, h]
  simp [h2]
theorem findSome_hit {α β : Type} {f : α → Option β} {B : List α} {j : Nat} {y : α} {p : β} (hy : B[j]? = some y) (h : (B.take j).findSome? f = none) (h2 : f y = some p) : B.findSome? f = some p := by
  rw [split_at hy, List.findSome?_append, h, List.findSome?_cons, h2]
  rfl
theorem ftouch_hit {A B : List Bx} {k : Nat} {x : Bx} {p : Pk} (hx : A[k]? = some x) (h : ftouch (A.take k) B = none) (h2 : B.findSome? (bcom x) = some p) : ftouch A B = some p := findSome_hit (f := fun x => B.findSome? (bcom x)) hx h h2
theorem Box4.sets {w : World} {b : Nat} {v0 v1 v2 v3 : Int} (h : Box4 w b v0 v1 v2 v3) (a0 a1 a2 a3 : Int) :
    Box4 ((((w.setCell ⟨b, 0, none⟩ (.int .i64 a0)).setCell ⟨b, 1, none⟩ (.int .i64 a1)).setCell ⟨b, 2, none⟩ (.int .i64 a2)).setCell ⟨b, 3, none⟩ (.int .i64 a3)) b a0 a1 a2 a3 := Box4.all h a0 a1 a2 a3
set_option maxHeartbeats 4000000 in
set_option maxRecDepth 100000 in
theorem firstTouch_any {lo lo' : Nat} (A B : List Bx) (u v : Value) (w : World) (hs : Iss lo w u A) (hu : Iss lo' w v B) (ha : BV2 A) (hb : BV2 B) :
    Calls Tryz.prog 51 #[u, v] w fun e w' => e = .returned (.tuple #[pkV ((ftouch A B).getD pk0), .bool (ftouch A B).isSome]) ∧ Below w.heap.size w w' := by
  obtain ⟨a, cap, rfl, hlc, hcm⟩ := hs.form
  obtain ⟨a', cap', rfl, hlc', hcm'⟩ := hu.form
  unfold maxLen at hcm hcm'
  generalize hn : A.length = n at *
  generalize hm : B.length = m at *
  have HN := Lib.hid hn
  have HM := Lib.hid hm
  have HA := Lib.hid ha
  have HB := Lib.hid hb
  obtain ⟨W, hW⟩ : ∃ W, w.alloc (.cells #[.int .i64 0, .int .i64 0, .int .i64 0, .int .i64 0] 35) = W := ⟨_, rfl⟩
  have hal : Below w.heap.size w W := by rw [← hW]; exact (Below.refl _ _).alloc (Nat.le_refl _) _
  have HP := Lib.hid (show Box4 W w.heap.size 0 0 0 0 by rw [← hW]; exact Box4.new w 0 0 0 0 _)
  have qs : w.heap.size < W.heap.size := HP.out.lt
  have HS := Lib.hid (hs.below hal)
  have HU := Lib.hid (hu.below hal)
  clear hn hm ha hb hs hu
  go_enter Tryz.func51, Tryz.ntmps51
  go_wp2_with fail
  go_loopw [14] (fun i wr => ∃ k : Nat, k ≤ n ∧ i = .int .i64 k ∧ Hid (ftouch (A.take k) B = none) ∧ Below W.heap.size W wr) (fun i _ => n - (intOf i).toNat)
  case atStart => exact ⟨0, by omega, rfl, Lib.hid rfl, Below.refl _ _⟩
  case round =>
    clear hW
    obtain ⟨k, hk, rfl, HG, hbr⟩ := hrel
    generalize wr = wo at *
    have hzr := hbr.size
    have hwr := hal.trans (hbr.mono hal.size)
    by_cases hlt : k < n
    · have i1 : (k : Int) < (n : Int) := by omega
      have i2 : (0 : Int) ≤ (k : Int) := by omega
      obtain ⟨f, hx⟩ : ∃ f, A[k]? = some f := ⟨_, List.getElem?_eq_getElem (by rw [HN.out]; exact hlt)⟩
      obtain ⟨b, o, v0, v1, v2, v3, rfl, hbl, c0, c1, c2, c3, hss⟩ := (HS.out.below hbr).at hx
      obtain ⟨a0, n0, p0, a1, n1, p1, a2, n2, p2, a3, n3, p3, rfl, rfl, rfl, rfl⟩ := sl4_form hss
      have HX := Lib.hid hx
      have HSS := Lib.hid hss
      have HFV := Lib.hid (HA.out f (List.mem_of_getElem? hx))
      obtain ⟨Wa, hWa⟩ : ∃ Wa, wo.alloc (.cells #[.slice a0 n0 p0, .slice a1 n1 p1, .slice a2 n2 p2, .slice a3 n3 p3] 77) = Wa := ⟨_, rfl⟩
      have hala : Below wo.heap.size wo Wa := by rw [← hWa]; exact (Below.refl _ _).alloc (Nat.le_refl _) _
      have e0 : Wa.cell? ⟨wo.heap.size, 0, none⟩ = some (.slice a0 n0 p0) := by rw [← hWa]; simp
      have e1 : Wa.cell? ⟨wo.heap.size, 1, none⟩ = some (.slice a1 n1 p1) := by rw [← hWa]; simp
      have e2 : Wa.cell? ⟨wo.heap.size, 2, none⟩ = some (.slice a2 n2 p2) := by rw [← hWa]; simp
      have e3 : Wa.cell? ⟨wo.heap.size, 3, none⟩ = some (.slice a3 n3 p3) := by rw [← hWa]; simp
      have qa : wo.heap.size < Wa.heap.size := by rw [← hWa]; simp
      have hba := hbr.trans (hala.mono hzr)
      clear hx hss
      go_wp2_with fail
      go_loopw [20] (fun i wr => ∃ j : Nat, j ≤ m ∧ i = .int .i64 j ∧ Hid ((B.take j).findSome? (bcom f) = none) ∧ Below Wa.heap.size Wa wr) (fun i _ => m - (intOf i).toNat)
      case atStart => exact ⟨0, by omega, rfl, Lib.hid rfl, Below.refl _ _⟩
      case round =>
        clear hWa
        obtain ⟨j, hj, rfl, HJ, hbi⟩ := hrel
        have hzi := hbi.size
        have hbI := hba.trans (hbi.mono hba.size)
        have hwi := hal.trans (hbI.mono hal.size)
        by_cases hjt : j < m
        · have j1 : (j : Int) < (m : Int) := by omega
          have j2 : (0 : Int) ≤ (j : Int) := by omega
          obtain ⟨g, hy⟩ : ∃ g, B[j]? = some g := ⟨_, List.getElem?_eq_getElem (by rw [HM.out]; exact hjt)⟩
          obtain ⟨b', o', u0, u1, u2, u3, rfl, hbl', d0, d1, d2, d3, huu⟩ := (HU.out.below hbI).at hy
          obtain ⟨x0, y0, z0, x1, y1, z1, x2, y2, z2, x3, y3, z3, rfl, rfl, rfl, rfl⟩ := sl4_form huu
          have HY := Lib.hid hy
          have HUU := Lib.hid huu
          have HGV := Lib.hid (HB.out g (List.mem_of_getElem? hy))
          have k0 := (hbi.cell (p := ⟨wo.heap.size, 0, none⟩) qa).trans e0
          have k1 := (hbi.cell (p := ⟨wo.heap.size, 1, none⟩) qa).trans e1
          have k2 := (hbi.cell (p := ⟨wo.heap.size, 2, none⟩) qa).trans e2
          have k3 := (hbi.cell (p := ⟨wo.heap.size, 3, none⟩) qa).trans e3
          have qi : wo.heap.size < wr.heap.size := by omega
          obtain ⟨Wb, hWb⟩ : ∃ Wb, wr.alloc (.cells #[.slice x0 y0 z0, .slice x1 y1 z1, .slice x2 y2 z2, .slice x3 y3 z3] 77) = Wb := ⟨_, rfl⟩
          have halb : Below wr.heap.size wr Wb := by rw [← hWb]; exact (Below.refl _ _).alloc (Nat.le_refl _) _
          have hbB := hbI.trans (halb.mono hbI.size)
          have HFS := Lib.hid (HSS.out.mono (fun _ _ q => q.below (hala.trans ((hbi.trans (halb.mono hzi)).mono hala.size))))
          have HGS := Lib.hid (HUU.out.mono (fun _ _ q => q.below halb))
          have m0 := (halb.cell (p := ⟨wo.heap.size, 0, none⟩) qi).trans k0
          have m1 := (halb.cell (p := ⟨wo.heap.size, 1, none⟩) qi).trans k1
          have m2 := (halb.cell (p := ⟨wo.heap.size, 2, none⟩) qi).trans k2
          have m3 := (halb.cell (p := ⟨wo.heap.size, 3, none⟩) qi).trans k3
          have l0 : Wb.cell? ⟨wr.heap.size, 0, none⟩ = some (.slice x0 y0 z0) := by rw [← hWb]; simp
          have l1 : Wb.cell? ⟨wr.heap.size, 1, none⟩ = some (.slice x1 y1 z1) := by rw [← hWb]; simp
          have l2 : Wb.cell? ⟨wr.heap.size, 2, none⟩ = some (.slice x2 y2 z2) := by rw [← hWb]; simp
          have l3 : Wb.cell? ⟨wr.heap.size, 3, none⟩ = some (.slice x3 y3 z3) := by rw [← hWb]; simp
          obtain ⟨r, hr⟩ : ∃ r, (!bempty (bmeet f g)) = r := ⟨_, rfl⟩
          obtain ⟨⟨q0, q1, q2, q3⟩, hq⟩ : ∃ q : Pk, (bcom f g).getD pk0 = q := ⟨_, rfl⟩
          have hbf : bfst f g = .agg #[.int .i64 q0, .int .i64 q1, .int .i64 q2, .int .i64 q3] := by rw [bfst_com, hq]; rfl
          have HC := Lib.hid (show (bcom f g).isSome = r by rw [bcom_isSome, hr])
          have HQ := Lib.hid hq
          clear hy huu hq k0 k1 k2 k3
          go_wp2_with fail
          refine (fstCommon_b HFS.out HGS.out HFV.out HGV.out hr).mono ?_
          rw [hbf]
          rintro e w4 ⟨rfl, hb4⟩
          have hb44 := hbB.trans (hb4.mono hbB.size)
          have hz4 := hb44.size
          have hal4 : Below w4.heap.size w4 (w4.alloc (.cells #[.int .i64 q0, .int .i64 q1, .int .i64 q2, .int .i64 q3] 35)) := (Below.refl _ _).alloc (Nat.le_refl _) _
          have hb5 := hb44.trans (hal4.mono hz4)
          have hb55 : Below Wa.heap.size Wa (w4.alloc (.cells #[.int .i64 q0, .int .i64 q1, .int .i64 q2, .int .i64 q3] 35)) := (hbi.trans (halb.mono hzi)).trans ((hb4.trans (hal4.mono hb4.size)).mono (by have := halb.size; omega))
          clear hr hWb
          cases r
          · have HJ2 := Lib.hid (findSome_succ HY.out HJ.out (by have := HC.out; cases e : bcom f g with | none => rfl | some p => rw [e] at this; cases this))
            go_wp2
            go_roundw
            case rel => exact ⟨j + 1, by omega, by go_num, HJ2, hb55⟩
            case measure => simp [intOf]; omega
          · have HH := Lib.hid (show ftouch A B = some ⟨q0, q1, q2, q3⟩ from ftouch_hit HX.out HG.out (findSome_hit HY.out HJ.out (by
              have := HC.out
              have h2 := HQ.out
              cases e : bcom f g with
              | none => rw [e] at this; cases this
              | some p => rw [e] at h2; exact congrArg some h2)))
            have HPW := Lib.hid (Box4.bel HP.out hb5)
            obtain ⟨t1, t2, t3, t4, t5, t6⟩ := id HPW.out
            have t60 := t6 0
            have t61 := t6 1
            have t62 := t6 2
            have t63 := t6 3
            have hwF := hal.trans (hb5.mono hal.size)
            have HPF := Lib.hid (Box4.sets HPW.out q0 q1 q2 q3)
            obtain ⟨s1, s2, s3, s4, s5, s6⟩ := id HPF.out
            have hwS := (((hwF.setCell (p := ⟨w.heap.size, 0, none⟩) (Nat.le_refl _) (.int .i64 q0)).setCell (p := ⟨w.heap.size, 1, none⟩) (Nat.le_refl _) (.int .i64 q1)).setCell (p := ⟨w.heap.size, 2, none⟩) (Nat.le_refl _) (.int .i64 q2)).setCell (p := ⟨w.heap.size, 3, none⟩) (Nat.le_refl _) (.int .i64 q3)
            clear t6 s6 HPW
            go_wp2
            refine bodyPost_ret (v := .tuple #[.agg #[.int .i64 q0, .int .i64 q1, .int .i64 q2, .int .i64 q3], .bool true]) ?_ rfl ⟨by rw [HH.out]; rfl, hwS⟩
            simp [results, Tryz.results51, go_sem, s2, s3, s4, s5]
        · have hjm : j = m := by omega
          have HJ2 := Lib.hid (ftouch_none_succ HX.out HG.out (by have := HJ.out; rwa [List.take_of_length_le (by rw [HM.out]; omega)] at this))
          go_wp2
          go_roundw
          case rel => exact ⟨k + 1, by omega, by go_num, HJ2, hbI⟩
          case measure => simp [intOf]; omega
    · have HE := Lib.hid (show ftouch A B = none by have := HG.out; rwa [List.take_of_length_le (by rw [HN.out]; omega)] at this)
      have HPW := Lib.hid (Box4.bel HP.out hbr)
      obtain ⟨t1, t2, t3, t4, t5, t6⟩ := id HPW.out
      have t60 := t6 0
      have t61 := t6 1
      have t62 := t6 2
      have t63 := t6 3
      have HPF := Lib.hid (Box4.sets HPW.out 0 0 0 0)
      obtain ⟨s1, s2, s3, s4, s5, s6⟩ := id HPF.out
      have hwS := (((hwr.setCell (p := ⟨w.heap.size, 0, none⟩) (Nat.le_refl _) (.int .i64 0)).setCell (p := ⟨w.heap.size, 1, none⟩) (Nat.le_refl _) (.int .i64 0)).setCell (p := ⟨w.heap.size, 2, none⟩) (Nat.le_refl _) (.int .i64 0)).setCell (p := ⟨w.heap.size, 3, none⟩) (Nat.le_refl _) (.int .i64 0)
      clear t6 s6 HPW
      go_wp2
      refine bodyPost_ret (v := .tuple #[.agg #[.int .i64 0, .int .i64 0, .int .i64 0, .int .i64 0], .bool false]) ?_ rfl ⟨by rw [HE.out]; rfl, hwS⟩
      simp [results, Tryz.results51, go_sem, s2, s3, s4, s5]
theorem firstTouch_r {lo lo' : Nat} {A B : List Bx} {u v : Value} {w : World} {O : Option Pk} {q0 q1 q2 q3 : Int} {r : Bool} (h : ftouch A B = O) (hq : O.getD pk0 = ⟨q0, q1, q2, q3⟩) (hr : O.isSome = r) (hs : Iss lo w u A) (hu : Iss lo' w v B) (ha : BV2 A) (hb : BV2 B) :
    Calls Tryz.prog 51 #[u, v] w fun e w' => e = .returned (.tuple #[.agg #[.int .i64 q0, .int .i64 q1, .int .i64 q2, .int .i64 q3], .bool r]) ∧ Below w.heap.size w w' := by
  refine (firstTouch_any A B u v w hs hu ha hb).mono ?_
  rw [h, hq, hr]
  exact fun e w' h => h
/-- A packet of one list's accepted and the other one's dropped boxes. -/
def fwit (A D A' D' : List Bx) : Option Pk := match ftouch A D' with
  | some p => some p
  | none => ftouch D A'
theorem fdif_wit {fs gs x y : List Ft} {r c : Bool} (hx : fparts fs r = some x) (hy : fparts gs c = some y) : fdif fs r gs c = fwit (psel x true) (psel x false) (psel y true) (psel y false) := by
  unfold fdif fwit
  rw [hx, hy]
  rfl
/-- Two cells of a block. -/
def C2 (w : World) (b : Nat) (x y : Value) : Prop := b < w.heap.size ∧ w.cell? ⟨b, 0, none⟩ = some x ∧ w.cell? ⟨b, 1, none⟩ = some y
theorem C2.below {w w' : World} {b : Nat} {x y : Value} (h : C2 w b x y) (hb : Below w.heap.size w w') : C2 w' b x y :=
  ⟨Nat.lt_of_lt_of_le h.1 hb.size, (hb.cell (p := ⟨b, 0, none⟩) h.1).trans h.2.1, (hb.cell (p := ⟨b, 1, none⟩) h.1).trans h.2.2⟩
theorem C2.new (w : World) (x y : Value) (ty : TypeId) : C2 (w.alloc (.cells #[x, y] ty)) w.heap.size x y := ⟨by simp, by simp, by simp⟩
set_option maxHeartbeats 2000000 in
set_option maxRecDepth 100000 in
theorem witness_any {lo1 lo2 lo3 lo4 : Nat} {A D A' D' : List Bx} {a1 a2 b1 b2 : Option Addr} {n1 c1 n2 c2 m1 e1 m2 e2 : Nat} (w : World) (hA : Iss lo1 w (.slice a1 n1 c1) A) (hD : Iss lo2 w (.slice a2 n2 c2) D) (hA' : Iss lo3 w (.slice b1 m1 e1) A') (hD' : Iss lo4 w (.slice b2 m2 e2) D') (vA : BV2 A) (vD : BV2 D) (vA' : BV2 A') (vD' : BV2 D') :
    Calls Tryz.prog 23 #[.agg #[.slice a1 n1 c1, .slice a2 n2 c2], .agg #[.slice b1 m1 e1, .slice b2 m2 e2]] w fun e w' => e = .returned (.tuple #[pkV ((fwit A D A' D').getD pk0), .bool (fwit A D A' D').isSome]) ∧ Below w.heap.size w w' := by
  obtain ⟨W, hW⟩ : ∃ W, ((w.alloc (.cells #[.slice a1 n1 c1, .slice a2 n2 c2] 47)).alloc (.cells #[.slice b1 m1 e1, .slice b2 m2 e2] 47)).alloc (.cells #[.int .i64 0, .int .i64 0, .int .i64 0, .int .i64 0] 35) = W := ⟨_, rfl⟩
  have hal : Below w.heap.size w W := by rw [← hW]; (repeat' (first | with_reducible exact Below.refl _ _ | with_reducible assumption | with_reducible refine Below.setCell ?_ ?_ _ | with_reducible refine Below.alloc ?_ ?_ _ | with_reducible refine Below.drew ?_ | with_reducible refine belDrewN ?_ _ | with_reducible refine Below.trans ?_ (Below.mono (by assumption) ?_) | omega | (simp; omega) | (simp; done)))
  have qz : W.heap.size = w.heap.size + 1 + 1 + 1 := by rw [← hW]; simp
  have HP := Lib.hid (show Box4 W (w.heap.size + 1 + 1) 0 0 0 0 by
    rw [← hW]
    have := Box4.new ((w.alloc (.cells #[.slice a1 n1 c1, .slice a2 n2 c2] 47)).alloc (.cells #[.slice b1 m1 e1, .slice b2 m2 e2] 47)) 0 0 0 0 35
    simpa using this)
  have HC := Lib.hid (show C2 W w.heap.size (.slice a1 n1 c1) (.slice a2 n2 c2) by
    rw [← hW]
    exact ((C2.new w _ _ _).below ((Below.refl _ _).alloc (Nat.le_refl _) _)).below ((Below.refl _ _).alloc (Nat.le_refl _) _))
  have HE := Lib.hid (show C2 W (w.heap.size + 1) (.slice b1 m1 e1) (.slice b2 m2 e2) by
    rw [← hW]
    have := (C2.new (w.alloc (.cells #[.slice a1 n1 c1, .slice a2 n2 c2] 47)) (.slice b1 m1 e1) (.slice b2 m2 e2) 47).below ((Below.refl _ _).alloc (Nat.le_refl _) (.cells #[.int .i64 0, .int .i64 0, .int .i64 0, .int .i64 0] 35))
    simpa using this)
  have HA := Lib.hid (hA.below hal)
  have HD := Lib.hid (hD.below hal)
  have HA' := Lib.hid (hA'.below hal)
  have HD' := Lib.hid (hD'.below hal)
  obtain ⟨-, x0, x1⟩ := HC.out
  obtain ⟨-, y0, y1⟩ := HE.out
  obtain ⟨O, hO⟩ : ∃ O, ftouch A D' = O := ⟨_, rfl⟩
  obtain ⟨⟨q0, q1, q2, q3⟩, hq⟩ : ∃ q : Pk, O.getD pk0 = q := ⟨_, rfl⟩
  obtain ⟨r, hr⟩ : ∃ r, O.isSome = r := ⟨_, rfl⟩
  have HO := Lib.hid hO
  have HQ := Lib.hid hq
  have HRR := Lib.hid hr
  clear hA hD hA' hD' hO hq hr
  go_enter Tryz.func23, Tryz.ntmps23
  go_wp2_with fail
  refine (firstTouch_r HO.out HQ.out HRR.out HA.out HD'.out vA vD').mono ?_
  rintro e w1 ⟨rfl, hb1⟩
  have hz1 := hb1.size
  have hal1 : Below w1.heap.size w1 (w1.alloc (.cells #[.int .i64 q0, .int .i64 q1, .int .i64 q2, .int .i64 q3] 35)) := (Below.refl _ _).alloc (Nat.le_refl _) _
  have hb2 := hb1.trans (hal1.mono hz1)
  have hw2 := hal.trans (hb2.mono hal.size)
  clear x0 x1 y0 y1
  cases r
  · have hON : O = none := by
      cases O with
      | none => rfl
      | some p => have := HRR.out; cases this
    have HF := Lib.hid (show fwit A D A' D' = ftouch D A' by unfold fwit; rw [HO.out, hON])
    obtain ⟨O2, hO⟩ : ∃ O, ftouch D A' = O := ⟨_, rfl⟩
    obtain ⟨⟨t0, t1, t2, t3⟩, hq⟩ : ∃ q : Pk, O2.getD pk0 = q := ⟨_, rfl⟩
    obtain ⟨r2, hr⟩ : ∃ r, O2.isSome = r := ⟨_, rfl⟩
    have HO2 := Lib.hid hO
    have HQ2 := Lib.hid hq
    have HR2 := Lib.hid hr
    obtain ⟨-, x0, x1⟩ := HC.out.below hb2
    obtain ⟨-, y0, y1⟩ := HE.out.below hb2
    clear hO hq hr hON hW
    go_wp2_with fail
    refine (firstTouch_r HO2.out HQ2.out HR2.out (HD.out.below hb2) (HA'.out.below hb2) vD vA').mono ?_
    rintro e w3 ⟨rfl, hb3⟩
    have hb23 := hb2.trans (hb3.mono hb2.size)
    have hw3 := hal.trans (hb23.mono hal.size)
    have HPW := Lib.hid (Box4.bel HP.out hb23)
    obtain ⟨s1, s2, s3, s4, s5, s6⟩ := id HPW.out
    have s60 := s6 0
    have s61 := s6 1
    have s62 := s6 2
    have s63 := s6 3
    have HPF := Lib.hid (Box4.sets HPW.out t0 t1 t2 t3)
    obtain ⟨k1, k2, k3, k4, k5, k6⟩ := id HPF.out
    have hB : w.heap.size ≤ w.heap.size + 1 + 1 := by omega
    have hwS := (((hw3.setCell (p := ⟨w.heap.size + 1 + 1, 0, none⟩) hB (.int .i64 t0)).setCell (p := ⟨w.heap.size + 1 + 1, 1, none⟩) hB (.int .i64 t1)).setCell (p := ⟨w.heap.size + 1 + 1, 2, none⟩) hB (.int .i64 t2)).setCell (p := ⟨w.heap.size + 1 + 1, 3, none⟩) hB (.int .i64 t3)
    clear s6 k6 HPW
    go_wp2
    refine bodyPost_ret (v := .tuple #[.agg #[.int .i64 t0, .int .i64 t1, .int .i64 t2, .int .i64 t3], .bool r2]) ?_ rfl ⟨by rw [HF.out, HO2.out, HQ2.out, HR2.out]; rfl, hwS⟩
    simp [results, Tryz.results23, go_sem, k2, k3, k4, k5]
  · have HF := Lib.hid (show fwit A D A' D' = O by
      unfold fwit
      rw [HO.out]
      cases O with
      | none => have := HRR.out; cases this
      | some p => rfl)
    have HPW := Lib.hid (Box4.bel HP.out hb2)
    obtain ⟨s1, s2, s3, s4, s5, s6⟩ := id HPW.out
    have s60 := s6 0
    have s61 := s6 1
    have s62 := s6 2
    have s63 := s6 3
    have HPF := Lib.hid (Box4.sets HPW.out q0 q1 q2 q3)
    obtain ⟨k1, k2, k3, k4, k5, k6⟩ := id HPF.out
    have hB : w.heap.size ≤ w.heap.size + 1 + 1 := by omega
    have hwS := (((hw2.setCell (p := ⟨w.heap.size + 1 + 1, 0, none⟩) hB (.int .i64 q0)).setCell (p := ⟨w.heap.size + 1 + 1, 1, none⟩) hB (.int .i64 q1)).setCell (p := ⟨w.heap.size + 1 + 1, 2, none⟩) hB (.int .i64 q2)).setCell (p := ⟨w.heap.size + 1 + 1, 3, none⟩) hB (.int .i64 q3)
    clear s6 k6 HPW hW
    go_wp2
    refine bodyPost_ret (v := .tuple #[.agg #[.int .i64 q0, .int .i64 q1, .int .i64 q2, .int .i64 q3], .bool true]) ?_ rfl ⟨by rw [HF.out, HQ.out, HRR.out]; rfl, hwS⟩
    simp [results, Tryz.results23, go_sem, k2, k3, k4, k5]
-- MADE --
def IssB (w : World) (O : Option (List Ft)) (a b : Value) : Prop := ∀ R, O = some R → Iss 0 w a (psel R true) ∧ Iss 0 w b (psel R false)
theorem IssB.below {w w' : World} {O : Option (List Ft)} {a b : Value} (h : IssB w O a b) (hb : Below w.heap.size w w') : IssB w' O a b := fun R e => ⟨(h R e).1.below hb, (h R e).2.below hb⟩
theorem partsOf_q {lo : Nat} {fs : List Ft} {r q : Bool} {v : Value} {w : World} {O : Option (List Ft)} (h : parts fs r = O) (hq : O.isSome = q) (ht : Tab w) (hs : Ifs lo w v fs) (hv : fvalid fs = true) :
    Calls Tryz.prog 21 #[v, .bool r] w fun e w' => ∃ ea el ec da dl dc, e = .returned (.tuple #[.agg #[.slice ea el ec, .slice da dl dc], .bool q]) ∧ IssB w' O (.slice ea el ec) (.slice da dl dc) ∧ Below w.heap.size w w' := by
  subst hq
  exact partsOf_r h ht hs hv
theorem fparts_yes {fs : List Ft} {r : Bool} (hv : fvalid fs = true) : fparts fs r = parts fs r := by unfold fparts; rw [if_pos hv]
theorem fparts_inv {fs : List Ft} {r : Bool} (hv : fvalid fs = false) : fparts fs r = none := by unfold fparts; rw [hv]; rfl
/-- pkV written out. -/
theorem witness_r {lo1 lo2 lo3 lo4 : Nat} {A D A' D' : List Bx} {a1 a2 b1 b2 : Option Addr} {n1 c1 n2 c2 m1 e1 m2 e2 : Nat} {q0 q1 q2 q3 : Int} {r : Bool} {w : World} (h : (fwit A D A' D').getD pk0 = ⟨q0, q1, q2, q3⟩) (hr : (fwit A D A' D').isSome = r) (hA : Iss lo1 w (.slice a1 n1 c1) A) (hD : Iss lo2 w (.slice a2 n2 c2) D) (hA' : Iss lo3 w (.slice b1 m1 e1) A') (hD' : Iss lo4 w (.slice b2 m2 e2) D') (vA : BV2 A) (vD : BV2 D) (vA' : BV2 A') (vD' : BV2 D') :
    Calls Tryz.prog 23 #[.agg #[.slice a1 n1 c1, .slice a2 n2 c2], .agg #[.slice b1 m1 e1, .slice b2 m2 e2]] w fun e w' => e = .returned (.tuple #[.agg #[.int .i64 q0, .int .i64 q1, .int .i64 q2, .int .i64 q3], .bool r]) ∧ Below w.heap.size w w' := by
  refine (witness_any w hA hD hA' hD' vA vD vA' vD').mono ?_
  rw [h, hr]
  exact fun e w' h => h
set_option maxHeartbeats 4000000 in
set_option maxRecDepth 100000 in
theorem implFlatsSame_e {lo lo' : Nat} {fs gs : List Ft} {r c : Bool} {u v : Value} {w : World} {n : Int} (hs : Fts lo w u fs) (hu : Fts lo' w v gs) (ht : Tab w) (h : fsame fs r gs c = n) :
    Calls Tryz.prog 6 #[u, .bool r, v, .bool c] w fun e w' => e = .returned (.int .i64 n) ∧ Below w.heap.size w w' := by
  have HR := Lib.hid h
  clear h
  have hal : Below w.heap.size w w := Below.refl _ _
  have HS := Lib.hid (hs.below hal)
  have HU := Lib.hid (hu.below hal)
  have HT := Lib.hid (ht.below hal)
  clear hs hu ht
  have hw_0 := hal
  clear hal
  obtain ⟨fa, hfa⟩ : ∃ fa, fvalid fs = fa := ⟨_, rfl⟩
  obtain ⟨fb, hfb⟩ : ∃ fb, fvalid gs = fb := ⟨_, rfl⟩
  go_enter Tryz.func6, Tryz.ntmps6
  cases fa
  · go_wp2_with fail
    refine (implFV_b HS.out HT.out hfa).mono ?_
    rintro e w1 ⟨rfl, hb_w1⟩
    have hw_w1 := hw_0.trans (hb_w1.mono hw_0.size)
    clear hw_0
    replace HS := Lib.hid (HS.out.below hb_w1)
    replace HU := Lib.hid (HU.out.below hb_w1)
    replace HT := Lib.hid (HT.out.below hb_w1)
    clear hb_w1 
    have HRN := Lib.hid (show n = -1 by rw [← HR.out]; exact fsame_no (.inl (fparts_inv (by assumption))))
    go_wp2
    go_ret
    exact ⟨ret_int HRN.out.symm, hw_w1⟩
  · go_wp2_with fail
    refine (implFV_b HS.out HT.out hfa).mono ?_
    rintro e w2 ⟨rfl, hb_w2⟩
    have hw_w2 := hw_0.trans (hb_w2.mono hw_0.size)
    clear hw_0
    replace HS := Lib.hid (HS.out.below hb_w2)
    replace HU := Lib.hid (HU.out.below hb_w2)
    replace HT := Lib.hid (HT.out.below hb_w2)
    clear hb_w2 
    cases fb
    · go_wp2_with fail
      refine (implFV_b HU.out HT.out hfb).mono ?_
      rintro e w3 ⟨rfl, hb_w3⟩
      have hw_w3 := hw_w2.trans (hb_w3.mono hw_w2.size)
      clear hw_w2
      replace HS := Lib.hid (HS.out.below hb_w3)
      replace HU := Lib.hid (HU.out.below hb_w3)
      replace HT := Lib.hid (HT.out.below hb_w3)
      clear hb_w3 
      have HRN := Lib.hid (show n = -1 by rw [← HR.out]; exact fsame_no (.inr (fparts_inv (by assumption))))
      go_wp2
      go_ret
      exact ⟨ret_int HRN.out.symm, hw_w3⟩
    · go_wp2_with fail
      refine (implFV_b HU.out HT.out hfb).mono ?_
      rintro e w4 ⟨rfl, hb_w4⟩
      have hw_w4 := hw_w2.trans (hb_w4.mono hw_w2.size)
      clear hw_w2
      replace HS := Lib.hid (HS.out.below hb_w4)
      replace HU := Lib.hid (HU.out.below hb_w4)
      replace HT := Lib.hid (HT.out.below hb_w4)
      clear hb_w4 
      obtain ⟨Oa, hOa⟩ : ∃ O, parts fs r = O := ⟨_, rfl⟩
      obtain ⟨Ob, hOb⟩ : ∃ O, parts gs c = O := ⟨_, rfl⟩
      have HOA := Lib.hid hOa
      have HOB := Lib.hid hOb
      have HVA := Lib.hid hfa
      have HVB := Lib.hid hfb
      have HFA := Lib.hid ((fparts_yes (r := r) hfa).trans hOa)
      have HFB := Lib.hid ((fparts_yes (r := c) hfb).trans hOb)
      obtain ⟨qa, hqa⟩ : ∃ q, Oa.isSome = q := ⟨_, rfl⟩
      obtain ⟨qb, hqb⟩ : ∃ q, Ob.isSome = q := ⟨_, rfl⟩
      have HQA := Lib.hid hqa
      have HQB := Lib.hid hqb
      clear hOa hOb hfa hfb hqa hqb
      go_wp2_with fail
      refine (flatsOf_any fs _ _ HS.out (fvalid_four HVA.out) (fvalid_len HVA.out)).mono ?_
      rintro e w5 ⟨za, rfl, ho, hb_w5⟩
      have hw_w5 := hw_w4.trans (hb_w5.mono hw_w4.size)
      clear hw_w4
      replace HS := Lib.hid (HS.out.below hb_w5)
      replace HU := Lib.hid (HU.out.below hb_w5)
      replace HT := Lib.hid (HT.out.below hb_w5)
      have HIa := Lib.hid (ho)
      clear hb_w5 ho
      clear HS
      go_wp2_with fail
      refine (partsOf_q HOA.out HQA.out HT.out HIa.out HVA.out).mono ?_
      rintro e w6 ⟨ea, la, ka, da, ma, ja, rfl, ho, hb_w6⟩
      have hw_w6 := hw_w5.trans (hb_w6.mono hw_w5.size)
      clear hw_w5
      replace HU := Lib.hid (HU.out.below hb_w6)
      replace HT := Lib.hid (HT.out.below hb_w6)
      replace HIa := Lib.hid (HIa.out.below hb_w6)
      have HPa := Lib.hid (ho)
      clear hb_w6 ho
      clear HIa
      obtain ⟨Wa, hWa⟩ : ∃ W, w6.alloc (.cells #[.slice ea la ka, .slice da ma ja] 47) = W := ⟨_, rfl⟩
      have hala : Below w6.heap.size w6 Wa := by rw [← hWa]; exact (Below.refl _ _).alloc (Nat.le_refl _) _
      have hca : C2 Wa w6.heap.size (.slice ea la ka) (.slice da ma ja) := by rw [← hWa]; exact C2.new _ _ _ _
      have hw_Wa := hw_w6.trans (hala.mono hw_w6.size)
      clear hw_w6
      replace HU := Lib.hid (HU.out.below hala)
      replace HT := Lib.hid (HT.out.below hala)
      replace HPa := Lib.hid (IssB.below HPa.out hala)
      have HCa := Lib.hid (hca)
      clear hala hca
      go_wp2_with fail
      refine (flatsOf_any gs _ _ HU.out (fvalid_four HVB.out) (fvalid_len HVB.out)).mono ?_
      rintro e w7 ⟨zb, rfl, ho, hb_w7⟩
      have hw_w7 := hw_Wa.trans (hb_w7.mono hw_Wa.size)
      clear hw_Wa
      replace HU := Lib.hid (HU.out.below hb_w7)
      replace HT := Lib.hid (HT.out.below hb_w7)
      replace HPa := Lib.hid (IssB.below HPa.out hb_w7)
      replace HCa := Lib.hid (C2.below HCa.out hb_w7)
      have HIb := Lib.hid (ho)
      clear hb_w7 ho
      clear HU
      go_wp2_with fail
      refine (partsOf_q HOB.out HQB.out HT.out HIb.out HVB.out).mono ?_
      rintro e w8 ⟨eb, lb, kb, db, mb, jb, rfl, ho, hb_w8⟩
      have hw_w8 := hw_w7.trans (hb_w8.mono hw_w7.size)
      clear hw_w7
      replace HT := Lib.hid (HT.out.below hb_w8)
      replace HPa := Lib.hid (IssB.below HPa.out hb_w8)
      replace HCa := Lib.hid (C2.below HCa.out hb_w8)
      replace HIb := Lib.hid (HIb.out.below hb_w8)
      have HPb := Lib.hid (ho)
      clear hb_w8 ho
      clear HIb
      obtain ⟨Wb, hWb⟩ : ∃ W, w8.alloc (.cells #[.slice eb lb kb, .slice db mb jb] 47) = W := ⟨_, rfl⟩
      have halb : Below w8.heap.size w8 Wb := by rw [← hWb]; exact (Below.refl _ _).alloc (Nat.le_refl _) _
      have hcb : C2 Wb w8.heap.size (.slice eb lb kb) (.slice db mb jb) := by rw [← hWb]; exact C2.new _ _ _ _
      have hw_Wb := hw_w8.trans (halb.mono hw_w8.size)
      clear hw_w8
      replace HT := Lib.hid (HT.out.below halb)
      replace HPa := Lib.hid (IssB.below HPa.out halb)
      replace HCa := Lib.hid (C2.below HCa.out halb)
      replace HPb := Lib.hid (IssB.below HPb.out halb)
      have HCb := Lib.hid (hcb)
      clear halb hcb
      cases qa
      · skip
        have HRN := Lib.hid (show n = -1 by rw [← HR.out]; exact fsame_no (.inl (by rw [HFA.out]; exact Option.not_isSome_iff_eq_none.1 (by rw [HQA.out]; simp))))
        go_wp2
        go_ret
        exact ⟨ret_int HRN.out.symm, hw_Wb⟩
      · cases qb
        · have HRN := Lib.hid (show n = -1 by rw [← HR.out]; exact fsame_no (.inr (by rw [HFB.out]; exact Option.not_isSome_iff_eq_none.1 (by rw [HQB.out]; simp))))
          go_wp2
          go_ret
          exact ⟨ret_int HRN.out.symm, hw_Wb⟩
        · obtain ⟨x, rfl⟩ : ∃ x, Oa = some x := Option.isSome_iff_exists.1 HQA.out
          obtain ⟨y, rfl⟩ : ∃ y, Ob = some y := Option.isSome_iff_exists.1 HQB.out
          have HFW := Lib.hid (fdif_wit HFA.out HFB.out)
          have HXA := Lib.hid (HPa.out x rfl)
          have HXB := Lib.hid (HPb.out y rfl)
          have hva := fun a => psel_bv HFA.out a
          have hvb := fun a => psel_bv HFB.out a
          obtain ⟨-, g0, g1⟩ := HCa.out
          obtain ⟨-, g2, g3⟩ := HCb.out
          have HSY := Lib.hid (fsame_yes HFA.out HFB.out)
          obtain ⟨⟨q0, q1, q2, q3⟩, hq⟩ : ∃ q : Pk, (fwit (psel x true) (psel x false) (psel y true) (psel y false)).getD pk0 = q := ⟨_, rfl⟩
          obtain ⟨qr, hqr⟩ : ∃ q, (fwit (psel x true) (psel x false) (psel y true) (psel y false)).isSome = q := ⟨_, rfl⟩
          have HRS := Lib.hid (show n = if qr = true then 0 else 1 by rw [← HR.out, HSY.out, HFW.out, hqr])
          go_wp2_with fail
          refine (witness_r hq hqr HXA.out.1 HXA.out.2 HXB.out.1 HXB.out.2 (hva true) (hva false) (hvb true) (hvb false)).mono ?_
          rintro e w9 ⟨rfl, hb_w9⟩
          have hw_w9 := hw_Wb.trans (hb_w9.mono hw_Wb.size)
          clear hw_Wb
          replace HT := Lib.hid (HT.out.below hb_w9)
          clear hb_w9 
          have hal9 : Below w9.heap.size w9 (w9.alloc (.cells #[.int .i64 q0, .int .i64 q1, .int .i64 q2, .int .i64 q3] 35)) := (Below.refl _ _).alloc (Nat.le_refl _) _
          have hw9 := hw_w9.trans (hal9.mono hw_w9.size)
          clear hq hqr
          cases qr
          · go_wp2
            go_ret
            exact ⟨ret_int (by rw [HRS.out]; rfl), hw9⟩
          · go_wp2
            go_ret
            exact ⟨ret_int (by rw [HRS.out]; rfl), hw9⟩
end Go.Proofs.YtajcogpfmpehkaaGreatDoor
