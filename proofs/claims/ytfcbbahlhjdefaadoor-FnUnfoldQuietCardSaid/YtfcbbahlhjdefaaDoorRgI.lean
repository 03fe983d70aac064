/- The iterator over the pieces of a cut: the program's walk, for every loop body that keeps its word. -/
import Derived.RangeFuncNested
import Derived.RangeFuncBound
import Derived.RangeFuncCalls
import Derived.RangeFuncLeaves
import Derived.Shelf.Abstract
import Derived.Shelf.RegionOpen
import Derived.WalkKit
import Derived.OwnWalkIn
import Derived.TacticsInMore
import Derived.LoopNIn
import Derived.LoopIn
import Derived.Deep.DeepCutAuto
import Derived.Test.YtfcbbahlhjdefaaDoorRgA
import Derived.Test.YtfcbbahlhjdefaaDoorRgX
namespace Go.Proofs.YtfcbbahlhjdefaaDoor
open Go.RowKit Go.Shelf
attribute [local go_sem] Oper.semAt_some
/-- The block that the slice in cell B owns. -/
def obk (B : Nat) (W : World) : Option Nat := match W.cell? ⟨B, 0, none⟩ with
  | some v => v.ownBlock
  | none => none
theorem obk_same {B : Nat} {W W' : World} (h : W'.heap[B]? = W.heap[B]?) : obk B W' = obk B W := by
  unfold obk
  rw [World.cell?_of_block (show W'.heap[(⟨B, 0, none⟩ : Addr).block]? = W.heap[(⟨B, 0, none⟩ : Addr).block]? from h)]
/-- The blocks that are written while the pieces come. -/
def PB (X : Nat → Prop) (B l h : Nat) (o : Option Nat) (k : Nat) : Prop := k = B ∨ k = l ∨ k = h ∨ some k = o ∨ X k
/-- What a round keeps. -/
def KBd (B l : Nat) (W W' : World) : Prop := W.heap.size ≤ W'.heap.size ∧ ∀ k, k < W.heap.size → k ≠ B → k ≠ l → some k ≠ obk B W → W'.heap[k]? = W.heap[k]? ∧ some k ≠ obk B W'
/-- What the iterator reads, and what it knows of its places. -/
structure RC (X : Nat → Prop) (B l s1 s2 h : Nat) (vs us : List Value) (a b : Bx) (W : World) : Prop where
  hb : B < W.heap.size
  hh : h < W.heap.size
  h1 : s1 < W.heap.size
  h2 : s2 < W.heap.size
  c1 : ∀ (j : Nat) v, vs[j]? = some v → W.cell? ⟨s1, j, none⟩ = some v
  c2 : ∀ (j : Nat) v, us[j]? = some v → W.cell? ⟨s2, j, none⟩ = some v
  n1 : some s1 ≠ obk B W
  n2 : some s2 ≠ obk B W
  n3 : some h ≠ obk B W
  g1 : All2 (SpV (PB X B l h (obk B W)) W) vs a
  g2 : All2 (SpV (PB X B l h (obk B W)) W) us b
structure RN (B l s1 s2 h : Nat) : Prop where
  a1 : s1 ≠ B
  a2 : s1 ≠ l
  b1 : s2 ≠ B
  b2 : s2 ≠ l
  d1 : h ≠ B
  d2 : h ≠ l
/-- A step of the iterator's: its own block h alone is turned. -/
structure KIt (h : Nat) (W W' : World) : Prop where
  size : W.heap.size ≤ W'.heap.size
  blk : ∀ k, k < W.heap.size → k ≠ h → W'.heap[k]? = W.heap[k]?
  env : W'.os = W.os ∧ W'.tape = W.tape ∧ W'.output = W.output
theorem KIt.below {h : Nat} {W W' : World} (hb : Below W.heap.size W W') : KIt h W W' := ⟨hb.size, fun k hk _ => hb.block k hk, hb.os, hb.tape, hb.output⟩
theorem KIt.trans {h : Nat} {A B C : World} (x : KIt h A B) (y : KIt h B C) : KIt h A C := ⟨Nat.le_trans x.1 y.1, fun k hk hn => (y.2 k (Nat.lt_of_lt_of_le hk x.1) hn).trans (x.2 k hk hn), y.3.1.trans x.3.1, y.3.2.1.trans x.3.2.1, y.3.2.2.trans x.3.2.2⟩
theorem KIt.set (h j : Nat) (W : World) (v : Value) : KIt h W (W.setCell ⟨h, j, none⟩ v) := ⟨by simp, fun k _ hn => Below.heap_setCell _ _ _ _ hn, rfl, rfl, rfl⟩
theorem KIt.low {h n : Nat} {W W' : World} (hk : KIt h W W') (hn : n ≤ h) (hz : n ≤ W.heap.size) : Below n W W' := ⟨hk.3.1, hk.3.2.1, hk.3.2.2, hk.1, fun k k1 => hk.2 k (by omega) (by omega)⟩
theorem SpV.it {X : Nat → Prop} {B l h : Nat} {W W' : World} {v : Value} {xs : List Sp} (hd : h ≠ B) (hk : KIt h W W') (hB : B < W.heap.size) (g : SpV (PB X B l h (obk B W)) W v xs) : SpV (PB X B l h (obk B W')) W' v xs := by
  rw [obk_same (hk.2 B hB (fun e => hd e.symm))]
  exact g.keep hk.1 (fun k hk' hp => ⟨hk.2 k hk' (fun e => hp (.inr (.inr (.inl e)))), hp⟩)
theorem SpV.bd {X : Nat → Prop} {B l h : Nat} {W W' : World} {v : Value} {xs : List Sp} (hk : KBd B l W W') (g : SpV (PB X B l h (obk B W)) W v xs) : SpV (PB X B l h (obk B W')) W' v xs :=
  g.keep hk.1 (fun k hk' hp => by
    obtain ⟨h1, h2⟩ := hk.2 k hk' (fun e => hp (.inl e)) (fun e => hp (.inr (.inl e))) (fun e => hp (.inr (.inr (.inr (.inl e)))))
    exact ⟨h1, fun hp' => by
      rcases hp' with e | e | e | e | e
      · exact hp (.inl e)
      · exact hp (.inr (.inl e))
      · exact hp (.inr (.inr (.inl e)))
      · exact h2 e
      · exact hp (.inr (.inr (.inr (.inr e))))⟩)
theorem RC.it {X : Nat → Prop} {B l s1 s2 h : Nat} {vs us : List Value} {a b : Bx} {W W' : World} (hn : RN B l s1 s2 h) (k1 : s1 ≠ h) (k2 : s2 ≠ h) (H : RC X B l s1 s2 h vs us a b W) (hk : KIt h W W') : RC X B l s1 s2 h vs us a b W' := by
  have ho : obk B W' = obk B W := obk_same (hk.2 B H.hb (fun e => hn.d1 e.symm))
  refine ⟨Nat.lt_of_lt_of_le H.hb hk.1, Nat.lt_of_lt_of_le H.hh hk.1, Nat.lt_of_lt_of_le H.h1 hk.1, Nat.lt_of_lt_of_le H.h2 hk.1, fun j v hj => ?_, fun j v hj => ?_, by rw [ho]; exact H.n1, by rw [ho]; exact H.n2, by rw [ho]; exact H.n3, H.g1.mono (fun _ _ g => g.it hn.d1 hk H.hb), H.g2.mono (fun _ _ g => g.it hn.d1 hk H.hb)⟩
  · exact (World.cell?_of_block (hk.2 s1 H.h1 k1)).trans (H.c1 j v hj)
  · exact (World.cell?_of_block (hk.2 s2 H.h2 k2)).trans (H.c2 j v hj)
theorem RC.bd {X : Nat → Prop} {B l s1 s2 h : Nat} {vs us : List Value} {a b : Bx} {W W' : World} (hn : RN B l s1 s2 h) (H : RC X B l s1 s2 h vs us a b W) (hk : KBd B l W W') : RC X B l s1 s2 h vs us a b W' := by
  have e1 := hk.2 s1 H.h1 hn.a1 hn.a2 H.n1
  have e2 := hk.2 s2 H.h2 hn.b1 hn.b2 H.n2
  have e3 := hk.2 h H.hh hn.d1 hn.d2 H.n3
  exact ⟨Nat.lt_of_lt_of_le H.hb hk.1, Nat.lt_of_lt_of_le H.hh hk.1, Nat.lt_of_lt_of_le H.h1 hk.1, Nat.lt_of_lt_of_le H.h2 hk.1, fun j v hj => (World.cell?_of_block e1.1).trans (H.c1 j v hj), fun j v hj => (World.cell?_of_block e2.1).trans (H.c2 j v hj), e1.2, e2.2, e3.2, H.g1.mono (fun _ _ g => g.bd hk), H.g2.mono (fun _ _ g => g.bd hk)⟩
/-- The loop's body, as the iterator sees it. -/
structure Rnd (X : Nat → Prop) (B l : Nat) (J : Nat → List Bx → World → Prop) (Jx : World → Prop) : Prop where
  st : ∀ h pre W W', J h pre W → KIt h W W' → J h pre W'
  ok : ∀ h pre W, J h pre W → B < W.heap.size ∧ l < W.heap.size ∧ h ≠ B ∧ h ≠ l ∧ some h ≠ obk B W ∧ ∀ z, obk B W = some z → z < W.heap.size
  tb : ∀ h pre W, J h pre W → Tab W
  y1 : ∀ h pre (v0 v1 v2 v3 : Value) bx W, J h pre W → h < W.heap.size → pre.length < 4 → All2 (SpV (PB X B l h (obk B W)) W) [v0, v1, v2, v3] bx → YieldAt Fence.wide 1 Tryd.prog l #[.agg #[v0, v1, v2, v3], .bool true] W fun e W' => e = .returned (.bool true) ∧ J h (pre ++ [bx]) W' ∧ KBd B l W W'
  y0 : ∀ h pre W, J h pre W → YieldAt Fence.wide 1 Tryd.prog l #[.agg #[.slice none 0 0, .slice none 0 0, .slice none 0 0, .slice none 0 0], .bool false] W fun e W' => e = .returned (.bool false) ∧ Jx W'
set_option maxHeartbeats 4000000 in
set_option maxRecDepth 100000 in
theorem iter_in (X : Nat → Prop) (B l s1 s2 : Nat) (a b : Bx) (v0 v1 v2 v3 u0 u1 u2 u3 : Value) (J : Nat → List Bx → World → Prop) (Jx : World → Prop) (HR : Rnd X B l J Jx) (W : World) (ht : Tab W) (ha : bvalid a = true) (hb : bvalid b = true)
    (hN : RN B l s1 s2 s1) (hC : RC X B l s1 s2 s1 [v0, v1, v2, v3] [u0, u1, u2, u3] a b W) (_hx : s2 ≠ s1) (hXX : ∀ k, X k → k < W.heap.size) (hP : ∀ h, W.heap.size ≤ h → All2 (SpV (PB X B l h (obk B W)) W) [v0, v1, v2, v3] a ∧ All2 (SpV (PB X B l h (obk B W)) W) [u0, u1, u2, u3] b) (h0 : ∀ h, h = s1 ∨ W.heap.size ≤ h → J h [] W) :
    CallsIn Fence.wide 2 Tryd.prog 74 #[.func (.yield l) #[] #[], .pointer (some ⟨s1, 0, none⟩), .pointer (some ⟨s2, 0, none⟩)] W fun e W' => (∃ v, e = .returned v) ∧ ((∃ h, J h (bcut a b) W' ∧ (bcut a b).all bvalid = true) ∨ (Jx W' ∧ (bcut a b).all bvalid = false)) := by
  obtain ⟨em, hem⟩ : ∃ em, bempty a = em := ⟨_, rfl⟩
  obtain ⟨tc, htc⟩ : ∃ tc, (!bempty (bmeet a b)) = tc := ⟨_, rfl⟩
  have q0 := hC.c1 0 v0 rfl
  have q1 := hC.c1 1 v1 rfl
  have q2 := hC.c1 2 v2 rfl
  have q3 := hC.c1 3 v3 rfl
  have HS := Lib.hid (show All2 (Sps 0 W) [v0, v1, v2, v3] a from hC.g1.mono (fun _ _ h => h.sps))
  have HT := Lib.hid (show All2 (Sps 0 W) [u0, u1, u2, u3] b from hC.g2.mono (fun _ _ h => h.sps))
  have HC := Lib.hid hC
  have HP := Lib.hid hP
  have H0 := Lib.hid h0
  have HRR := Lib.hid HR
  have HN := Lib.hid hN
  have HXX0 := Lib.hid hXX
  clear hXX
  have zs1 := hC.h1
  have zs2 := hC.h2
  clear hC hP h0 HR hN
  refine callsIn_of_wp Tryd.func74 rfl trivial ?_ rfl
  simp only [Tryd.ntmps74, List.size_toArray, List.length_cons, List.length_nil, Nat.reduceAdd, Nat.reduceSub, Array.replicate_succ, Array.replicate_zero, List.push_toArray, List.append_toArray, List.nil_append, List.cons_append]
  rw [wpIn_wide]
  go_wp2_with fail
  refine (empty_b HS.out hem).mono ?_
  rintro e w1 ⟨rfl, hb1⟩
  have hz1 := hb1.size
  have HE := Lib.hid hem
  cases em
  · clear hem
    replace q0 := (hb1.cell (p := ⟨s1, 0, none⟩) zs1).trans q0
    replace q1 := (hb1.cell (p := ⟨s1, 1, none⟩) zs1).trans q1
    replace q2 := (hb1.cell (p := ⟨s1, 2, none⟩) zs1).trans q2
    replace q3 := (hb1.cell (p := ⟨s1, 3, none⟩) zs1).trans q3
    have r0 := (hb1.cell (p := ⟨s2, 0, none⟩) zs2).trans (HC.out.c2 0 u0 rfl)
    have r1 := (hb1.cell (p := ⟨s2, 1, none⟩) zs2).trans (HC.out.c2 1 u1 rfl)
    have r2 := (hb1.cell (p := ⟨s2, 2, none⟩) zs2).trans (HC.out.c2 2 u2 rfl)
    have r3 := (hb1.cell (p := ⟨s2, 3, none⟩) zs2).trans (HC.out.c2 3 u3 rfl)
    go_wp2_with fail
    refine (touches_b (HS.out.mono (fun _ _ h => h.below hb1)) (HT.out.mono (fun _ _ h => h.below hb1)) ha hb htc).mono ?_
    rintro e w2 ⟨rfl, hb2⟩
    have hw2 := hb1.trans (hb2.mono hz1)
    have hz2 := hw2.size
    have HTC := Lib.hid htc
    cases tc
    · have HEM := Lib.hid (show bcut a b = [a] by
        have h2 := HTC.out
        rw [Bool.not_eq_false'] at h2
        unfold bcut
        rw [h2, HE.out]
        rfl)
      clear htc
      have hJ2 := HRR.out.st _ _ _ _ (H0.out s1 (.inl rfl)) (KIt.below hw2)
      obtain ⟨fn, tmps, assign, body, hy, hR⟩ := HRR.out.y1 s1 [] v0 v1 v2 v3 a w2 hJ2 (by omega) (by simp) (HC.out.g1.mono (fun _ _ g => g.it HN.out.d1 (KIt.below hw2) HC.out.hb))
      replace q0 := (hb2.cell (p := ⟨s1, 0, none⟩) (by simp only; omega)).trans q0
      replace q1 := (hb2.cell (p := ⟨s1, 1, none⟩) (by simp only; omega)).trans q1
      replace q2 := (hb2.cell (p := ⟨s1, 2, none⟩) (by simp only; omega)).trans q2
      replace q3 := (hb2.cell (p := ⟨s1, 3, none⟩) (by simp only; omega)).trans q3
      clear r0 r1 r2 r3
      go_upto_region 2 with (fail)
      rw [← wpIn_wide (n := 2)]
      gi_wp2
      refine hR.mono ?_
      rintro e W3 ⟨rfl, hJ3, -⟩
      gi_wp2
      go_wp2
      refine bodyPost_ret (results_none rfl _ _ _) rfl ?_
      exact ⟨⟨_, rfl⟩, .inl ⟨s1, by rw [HEM.out]; exact ⟨hJ3, by simp [ha]⟩⟩⟩
    · have HEM := Lib.hid (show bcut a b = bcuts a b 4 by
        have h2 := HTC.out
        rw [Bool.not_eq_true'] at h2
        unfold bcut
        rw [h2]
        rfl)
      clear htc
      replace q0 := (hb2.cell (p := ⟨s1, 0, none⟩) (by simp only; omega)).trans q0
      replace q1 := (hb2.cell (p := ⟨s1, 1, none⟩) (by simp only; omega)).trans q1
      replace q2 := (hb2.cell (p := ⟨s1, 2, none⟩) (by simp only; omega)).trans q2
      replace q3 := (hb2.cell (p := ⟨s1, 3, none⟩) (by simp only; omega)).trans q3
      clear r0 r1 r2 r3
      have hW3 : Below W.heap.size W (w2.alloc (.cells #[v0, v1, v2, v3] 84)) := hw2.alloc (by omega) _
      have HJ3 := Lib.hid (HRR.out.st _ _ _ _ (H0.out w2.heap.size (.inr hz2)) (KIt.below hW3))
      obtain ⟨ok1, ok2, ok3, ok4, ok5, ok6⟩ := HRR.out.ok _ _ _ (H0.out w2.heap.size (.inr hz2))
      have HNH := Lib.hid (show RN B l s1 s2 w2.heap.size from ⟨HN.out.a1, HN.out.a2, HN.out.b1, HN.out.b2, ok3, ok4⟩)
      have hsl := sl4_form HS.out
      have HRC := Lib.hid (show RC X B l s1 s2 w2.heap.size [v0, v1, v2, v3] [u0, u1, u2, u3] a b (w2.alloc (.cells #[v0, v1, v2, v3] 84)) from by
        have ho : obk B (w2.alloc (.cells #[v0, v1, v2, v3] 84)) = obk B W := obk_same (hW3.block B ok1)
        refine ⟨by simp; omega, by simp, by simp; omega, by simp; omega, fun j v hj => (hW3.cell (p := ⟨s1, j, none⟩) zs1).trans (HC.out.c1 j v hj), fun j v hj => (hW3.cell (p := ⟨s2, j, none⟩) zs2).trans (HC.out.c2 j v hj), by rw [ho]; exact HC.out.n1, by rw [ho]; exact HC.out.n2, by rw [ho]; exact ok5, ?_, ?_⟩
        · exact (HP.out w2.heap.size hz2).1.mono (fun _ _ g => g.it ok3 (KIt.below hW3) ok1)
        · exact (HP.out w2.heap.size hz2).2.mono (fun _ _ g => g.it ok3 (KIt.below hW3) ok1))
      have HH := Lib.hid (show ∀ (j : Nat) v, [v0, v1, v2, v3][j]? = some v → (w2.alloc (.cells #[v0, v1, v2, v3] 84)).cell? ⟨w2.heap.size, j, none⟩ = some v from fun k v hk => by
        match k, hk with
        | 0, hk => cases hk; simp
        | 1, hk => cases hk; simp
        | 2, hk => cases hk; simp
        | 3, hk => cases hk; simp
        | k + 4, hk => simp at hk)
      have HTB := Lib.hid (ht.below hW3)
      have hs1h : s1 ≠ w2.heap.size := by omega
      have hs2h : s2 ≠ w2.heap.size := by omega
      clear ok1 ok2 ok3 ok4 ok5 ok6
      obtain ⟨A0, N0, P0, A1, N1, P1, A2, N2, P2, A3, N3, P3, rfl, rfl, rfl, rfl⟩ := hsl
      go_wp2_with fail
      go_loopw [5, 22] (fun f i wr => ∃ (k : Nat) (x0 x1 x2 x3 : Value), k ≤ 4 ∧ i = .int .i64 k ∧ f = .bool (hfit a b k) ∧ Hid (J w2.heap.size (bcuts a b k) wr) ∧ Hid (RC X B l s1 s2 w2.heap.size [.slice A0 N0 P0, .slice A1 N1 P1, .slice A2 N2 P2, .slice A3 N3 P3] [u0, u1, u2, u3] a b wr)
        ∧ Hid (∀ (j : Nat) v, [x0, x1, x2, x3][j]? = some v → wr.cell? ⟨w2.heap.size, j, none⟩ = some v ∧ ∃ p n c, v = .slice p n c) ∧ Hid (∀ j, wr.frozen? ⟨w2.heap.size, j, none⟩ = false)
        ∧ Hid (hfit a b k = true → All2 (SpV (PB X B l w2.heap.size (obk B wr)) wr) [x0, x1, x2, x3] (bmix a b k)) ∧ Hid ((bcuts a b k).all bvalid = true) ∧ Hid (Tab wr)) (fun _ i _ => 4 - (intOf i).toNat)
      case atStart =>
        refine ⟨0, _, _, _, _, by omega, rfl, rfl, HJ3, HRC, Lib.hid (fun j v hj => ⟨HH.out j v hj, ?_⟩), Lib.hid (fun j => by simp), Lib.hid (fun _ => by rw [bmix_zero]; exact HRC.out.g1), Lib.hid rfl, HTB⟩
        obtain ⟨xs, hxs, hss⟩ : ∃ xs, a[j]? = some xs ∧ Sps 0 W v xs := by
          have hj4 := (List.getElem?_eq_some_iff.1 hj).1
          simp at hj4
          exact ⟨_, List.getElem?_eq_getElem (by rw [← HS.out.1]; exact hj4), HS.out.2 j _ _ hj (List.getElem?_eq_getElem (by rw [← HS.out.1]; exact hj4))⟩
        obtain ⟨p, c, h1, -⟩ := hss.form
        exact ⟨_, _, _, h1⟩
      case round =>
        obtain ⟨k, x0, x1, x2, x3, hk4, rfl, rfl, HJ, HRK, HX, HF, HM, HA, HTK⟩ := hrel
        clear HJ3 HRC HH HTB q0 q1 q2 q3 hb1 hb2
        by_cases hlt : k < 4
        · have i1 : (k : Int) < 4 := by omega
          have i2 : (0 : Int) ≤ (k : Int) := by omega
          obtain ⟨x, hx1, vx⟩ := bvalid_get ha hlt
          obtain ⟨y, hy1, vy⟩ := bvalid_get hb hlt
          obtain ⟨sv, hsv, hss⟩ := HRK.out.g1.left hx1
          obtain ⟨tv, htv, htt⟩ := HRK.out.g2.left hy1
          have d1 := HRK.out.c1 k sv hsv
          have d2 := HRK.out.c2 k tv htv
          have hzr1 := HRK.out.h1
          have hzr2 := HRK.out.h2
          have hzrh := HRK.out.hh
          obtain ⟨L, hL⟩ : ∃ L, bout a b k = L := ⟨_, rfl⟩
          obtain ⟨r1, hr1⟩ : ∃ r, decide (L.length ≤ 40) = r := ⟨_, rfl⟩
          have HLE := Lib.hid (show smeet x (sother (top k) 0 y) = L by rw [← hL]; unfold bout; rw [getD_get hx1, getD_get hy1])
          have HL := Lib.hid hL
          have HR1 := Lib.hid hr1
          have HSS := Lib.hid hss.sps
          have HTT := Lib.hid htt.sps
          have GX := Lib.hid (svalid_good vx)
          have GY := Lib.hid (svalid_good vy)
          obtain ⟨t0, t1⟩ := top_le hlt
          have HXX := Lib.hid hx1
          have HYY := Lib.hid hy1
          clear hL hr1 hss htt vx vy hsv htv hx1 hy1
          go_upto_region 7 with (fail)
          (refine wp_region_bel (W := wr) [BIs (.int .i64 (k : Int)), BIs (.pointer (some ⟨s1, k, none⟩)), BIs (sv), BIs (.int .i64 (k : Int)), BIs (.pointer (some ⟨s2, k, none⟩)), BIs (tv), BIs (.int .i64 (k : Int)), (BIs (.int .i64 (top k))), (fun w v => ∃ q, v = .tuple #[q, .bool r1] ∧ OwnSp wr.heap.size w q (slim L)), (fun w v => ∃ q, v = .tuple #[q, .bool r1] ∧ OwnSp wr.heap.size w q (slim L)), (fun w v => OwnSp wr.heap.size w v (slim L)), BIs (.bool r1), (fun w v => OwnSp wr.heap.size w v (slim L)), BIs (.bool r1)] (by kernel_rfl) (fun u => by simp only [frU, Act.put, List.setIfInBounds_toArray, List.set_cons_succ, List.set_cons_zero, Nat.zero_add, Nat.reduceAdd]; exact rfl) (by kernel_rfl) ⟨bst_is _, bst_is _, bst_is _, bst_is _, bst_is _, bst_is _, bst_is _, (bst_is _), (fun _ _ _ hb ⟨q, h1, h2⟩ => ⟨q, h1, OwnSl.kept h2 hb⟩), (fun _ _ _ hb ⟨q, h1, h2⟩ => ⟨q, h1, OwnSl.kept h2 hb⟩), (fun _ _ _ hb h => OwnSl.kept h hb), bst_is _, (fun _ _ _ hb h => OwnSl.kept h hb), bst_is _, trivial⟩ ?_ ?_; exact ⟨stB rfl (fun u w3 hC hd Q K hK => by (go_step; exact hK _ _ rfl (Below.refl _ _) rfl)), stB rfl (fun u w3 hC hd Q K hK => by (have hu := bis (w := w3) (hd 0 rfl); rw [hu] at hK ⊢; clear hu; go_step; exact hK _ _ rfl (Below.refl _ _) rfl)), stB rfl (fun u w3 hC hd Q K hK => by (have hu := bis (w := w3) (hd 1 rfl); rw [hu] at hK ⊢; clear hu; have z1 := (hC.cell (p := ⟨s1, k, none⟩) hzr1).trans d1; go_step; exact hK _ _ rfl (Below.refl _ _) rfl)), stB rfl (fun u w3 hC hd Q K hK => by (go_step; exact hK _ _ rfl (Below.refl _ _) rfl)), stB rfl (fun u w3 hC hd Q K hK => by (have hu := bis (w := w3) (hd 3 rfl); rw [hu] at hK ⊢; clear hu; go_step; exact hK _ _ rfl (Below.refl _ _) rfl)), stB rfl (fun u w3 hC hd Q K hK => by (have hu := bis (w := w3) (hd 4 rfl); rw [hu] at hK ⊢; clear hu; have z1 := (hC.cell (p := ⟨s2, k, none⟩) hzr2).trans d2; go_step; exact hK _ _ rfl (Below.refl _ _) rfl)), stB rfl (fun u w3 hC hd Q K hK => by (go_step; exact hK _ _ rfl (Below.refl _ _) rfl)), stB rfl (fun u w3 hC hd Q K hK => by (have hu := bis (w := w3) (hd 6 rfl); rw [hu] at hK ⊢; clear hu; go_step; refine (FieldTop_any k hlt _ (HTK.out.below hC)).mono ?_; rintro e w4 ⟨rfl, rfl⟩; exact hK _ _ rfl (Below.refl _ _) rfl)), stB rfl (fun u w3 hC hd Q K hK => by (have hu := bis (w := w3) (hd 2 rfl); rw [hu] at hK ⊢; clear hu; have hu := bis (w := w3) (hd 5 rfl); rw [hu] at hK ⊢; clear hu; have hu := bis (w := w3) (hd 7 rfl); rw [hu] at hK ⊢; clear hu; go_step; refine (lessSpans_r HLE.out HR1.out (HSS.out.below hC) (HTT.out.below hC) GX.out GY.out t0 t1).mono ?_; rintro e w4 ⟨z4, rfl, ho4, hb4⟩; exact hK _ _ rfl hb4 ⟨z4, rfl, OwnSl.mono ho4 hC.size⟩)), stB rfl (fun u w3 hC hd Q K hK => by (obtain ⟨y, hu, ho⟩ := hd 8 rfl; rw [hu] at hK ⊢; clear hu; go_step; exact hK _ _ rfl (Below.refl _ _) ⟨y, rfl, ho⟩)), stB rfl (fun u w3 hC hd Q K hK => by (obtain ⟨y, hu, ho⟩ := hd 9 rfl; rw [hu] at hK ⊢; clear hu; go_step; exact hK _ _ rfl (Below.refl _ _) ho)), stB rfl (fun u w3 hC hd Q K hK => by (obtain ⟨y, hu, -⟩ := hd 9 rfl; rw [hu] at hK ⊢; clear hu; go_step; exact hK _ _ rfl (Below.refl _ _) rfl)), stB rfl (fun u w3 hC hd Q K hK => by (have ho1 := hd 10 rfl; generalize u 10 = v1 at *; go_step; exact hK _ _ rfl (Below.refl _ _) ho1)), stB rfl (fun u w3 hC hd Q K hK => by (have hu := bis (w := w3) (hd 11 rfl); rw [hu] at hK ⊢; clear hu; go_step; exact hK _ _ rfl (Below.refl _ _) rfl)), trivial⟩); intro u w9 hb_w9 hF; rw [bis (w := w9) (hF 0 (by decide))]; rw [bis (w := w9) (hF 1 (by decide))]; rw [bis (w := w9) (hF 2 (by decide))]; rw [bis (w := w9) (hF 3 (by decide))]; rw [bis (w := w9) (hF 4 (by decide))]; rw [bis (w := w9) (hF 5 (by decide))]; rw [bis (w := w9) (hF 6 (by decide))]; generalize u 7 = vx7 at *; generalize u 8 = vx8 at *; generalize u 9 = vx9 at *; generalize u 10 = vx10 at *; rw [bis (w := w9) (hF 11 (by decide))]; have hz0 := hF 12 (by decide); generalize u 12 = z1 at *; rw [bis (w := w9) (hF 13 (by decide))]; clear hF
          replace hz0 : OwnSp wr.heap.size w9 z1 (slim L) := hz0
          obtain ⟨za, zc, rfl, -, -⟩ := (OwnSp.sps hz0).form
          have hK9 := KIt.below (h := w2.heap.size) hb_w9
          have HJ9 := Lib.hid (HRR.out.st _ _ _ _ HJ.out hK9)
          have HR9 := Lib.hid (HRK.out.it HNH.out hs1h hs2h hK9)
          have HX9 := Lib.hid (show ∀ (j : Nat) v, [x0, x1, x2, x3][j]? = some v → w9.cell? ⟨w2.heap.size, j, none⟩ = some v ∧ ∃ p n c, v = .slice p n c from fun j v hj => ⟨(hb_w9.cell (p := ⟨w2.heap.size, j, none⟩) hzrh).trans (HX.out j v hj).1, (HX.out j v hj).2⟩)
          have HF9 := Lib.hid (show ∀ j, w9.frozen? ⟨w2.heap.size, j, none⟩ = false from fun j => (hb_w9.frozen (p := ⟨w2.heap.size, j, none⟩) hzrh).trans (HF.out j))
          have HM9 := Lib.hid (show hfit a b k = true → All2 (SpV (PB X B l w2.heap.size (obk B w9)) w9) [x0, x1, x2, x3] (bmix a b k) from fun h => (HM.out h).mono (fun _ _ g => g.it HNH.out.d1 hK9 HRK.out.hb))
          have HT9 := Lib.hid (HTK.out.below hb_w9)
          have HZ := Lib.hid (show SpV (PB X B l w2.heap.size (obk B w9)) w9 (.slice za (slim L).length zc) (slim L) from SpV.own hz0 (fun j hj => by
            have hok := HRR.out.ok _ _ _ HJ9.out
            have ho : obk B w9 = obk B wr := obk_same (hb_w9.block B HRK.out.hb)
            rcases hj with rfl | rfl | rfl | e | e
            · exact HRK.out.hb
            · exact (HRR.out.ok _ _ _ HJ.out).2.1
            · exact hzrh
            · rw [ho] at e; exact (HRR.out.ok _ _ _ HJ.out).2.2.2.2.2 j e.symm
            · have := HXX0.out j e; omega))
          have hz9 := hb_w9.size
          have HBAD := Lib.hid (show (bout a b k).isEmpty = false → (hfit a b k && decide ((bout a b k).length ≤ 40)) = false → (bcut a b).all bvalid = false from fun h1 h2 => by
            rw [HEM.out, ← Bool.not_eq_true, List.all_eq_true]
            intro h
            have := h (bpc a b k) ((bcuts_mem 4).2 ⟨k, hlt, h1, rfl⟩)
            rw [bpc_valid ha hb hlt, h2] at this
            cases this)
          clear hb_w9 hz0 HJ HRK HX HF HM HTK d1 d2 HSS HTT hK9
          obtain ⟨hf, hhf⟩ : ∃ hf, hfit a b k = hf := ⟨_, rfl⟩
          have HHF := Lib.hid hhf
          rw [hhf]
          clear hhf
          obtain ⟨m, hm⟩ : ∃ m, (slim L).length = m := ⟨_, rfl⟩
          have HMM := Lib.hid hm
          obtain ⟨em, hem⟩ : ∃ em, L.isEmpty = em := ⟨_, rfl⟩
          have HEE := Lib.hid hem
          obtain ⟨bad, hbad⟩ : ∃ bad, (!r1 || (!em && !hf)) = bad := ⟨_, rfl⟩
          have hm0 : em = true → ¬ (0 : Int) < (m : Int) := fun h => by
            rw [h, List.isEmpty_iff] at hem
            rw [← hm, hem]
            simp [slim]
          have hm1 : r1 = true → em = false → (0 : Int) < (m : Int) := fun h1 h2 => by
            have hle : L.length ≤ 40 := of_decide_eq_true (HR1.out.trans h1)
            rw [← hm, slim, if_pos hle]
            cases L with
            | nil => rw [h2] at hem; simp at hem
            | cons s t => first | (simp; done) | (simp; omega)
          have HBD := Lib.hid (show bad = true → (bcut a b).all bvalid = false from fun h => HBAD.out (by
            rw [HL.out]
            cases hr : r1
            · have hbig : ¬ L.length ≤ 40 := of_decide_eq_false (HR1.out.trans hr)
              cases L with
              | nil => simp at hbig
              | cons s t => rfl
            · rw [hr] at hbad
              rw [HEE.out]
              cases he : em
              · rfl
              · rw [he] at hbad; rw [← hbad] at h; cases h) (by
            rw [HL.out, HR1.out, HHF.out]
            cases hr : r1
            · simp
            · rw [hr] at hbad
              cases hh : hf
              · rfl
              · rw [hh] at hbad; rw [← hbad] at h; simp at h))
          have HBV := Lib.hid hbad
          rw [hm] at HZ ⊢
          clear hm hem hbad HBAD
          go_upto_region 8 with (fail)
          go_cut [47] (fun r wx => r = .bool bad ∧ wx = w9)
          case first =>
            clear HBD
            have hbv := HBV.out
            clear HBV
            cases r1
            · clear hm0 hm1
              go_wp2_with fail
              go_meet
              exact ⟨by rw [← hbv]; rfl, rfl⟩
            · cases em
              · replace hm1 := hm1 rfl rfl
                clear hm0
                cases hf
                · go_wp2_with fail
                  go_meet
                  exact ⟨by rw [← hbv]; rfl, rfl⟩
                · go_wp2_with fail
                  go_meet
                  exact ⟨by rw [← hbv]; rfl, rfl⟩
              · replace hm0 := hm0 rfl
                clear hm1
                go_wp2_with fail
                go_meet
                exact ⟨by rw [← hbv]; simp, rfl⟩
          case rest =>
            obtain ⟨rfl, hwc⟩ := hcut
            rw [hwc]
            clear hwc
            apply_assumption
            cases bad
            · have HOK := Lib.hid (show r1 = true ∧ (em = false → hf = true) from by
                have := HBV.out
                cases r1
                · cases this
                · refine ⟨rfl, fun h => ?_⟩
                  subst h
                  cases hf
                  · cases this
                  · rfl)
              have hm2 := fun h => hm1 HOK.out.1 h
              clear HBD HBV hm1
              go_upto_if 53 with (fail)
              go_cut [] (fun wx => Hid (J w2.heap.size (bcuts a b (k + 1)) wx) ∧ Hid (RC X B l s1 s2 w2.heap.size [.slice A0 N0 P0, .slice A1 N1 P1, .slice A2 N2 P2, .slice A3 N3 P3] [u0, u1, u2, u3] a b wx)
                ∧ Hid (∀ (j : Nat) v, [x0, x1, x2, x3][j]? = some v → wx.cell? ⟨w2.heap.size, j, none⟩ = some v ∧ ∃ p n c, v = .slice p n c) ∧ Hid (∀ j, wx.frozen? ⟨w2.heap.size, j, none⟩ = false)
                ∧ Hid (hf = true → All2 (SpV (PB X B l w2.heap.size (obk B wx)) wx) [x0, x1, x2, x3] (bmix a b k)) ∧ Hid ((bcuts a b (k + 1)).all bvalid = true) ∧ Hid (Tab wx))
              case first =>
                cases em
                · replace hm2 := hm2 rfl
                  clear hm0
                  have hft := HOK.out.2 rfl
                  subst hft
                  obtain ⟨e0, X0, Y0, Z0, rfl⟩ := HX9.out 0 x0 rfl
                  obtain ⟨e1, X1, Y1, Z1, rfl⟩ := HX9.out 1 x1 rfl
                  obtain ⟨e2, X2, Y2, Z2, rfl⟩ := HX9.out 2 x2 rfl
                  obtain ⟨e3, X3, Y3, Z3, rfl⟩ := HX9.out 3 x3 rfl
                  obtain ⟨y0, y1, y2, y3, hys⟩ : ∃ y0 y1 y2 y3 : Value, [Value.slice X0 Y0 Z0, Value.slice X1 Y1 Z1, Value.slice X2 Y2 Z2, Value.slice X3 Y3 Z3].set k (Value.slice za m zc) = [y0, y1, y2, y3] := by
                    rcases (by omega : k = 0 ∨ k = 1 ∨ k = 2 ∨ k = 3) with rfl | rfl | rfl | rfl <;> exact ⟨_, _, _, _, rfl⟩
                  have hB10 : Below w9.heap.size w9 (w9.alloc (.cells #[y0, y1, y2, y3] 84)) := (Below.refl _ _).alloc (Nat.le_refl _) _
                  have hK10 := KIt.below (h := w2.heap.size) hB10
                  have HJ10 := HRR.out.st _ _ _ _ HJ9.out hK10
                  have HR10 := HR9.out.it HNH.out hs1h hs2h hK10
                  have hsL : slim L = L := by unfold slim; rw [if_pos (of_decide_eq_true (HR1.out.trans HOK.out.1))]
                  have hyy : All2 (SpV (PB X B l w2.heap.size (obk B (w9.alloc (.cells #[y0, y1, y2, y3] 84)))) (w9.alloc (.cells #[y0, y1, y2, y3] 84))) [y0, y1, y2, y3] (bpc a b k) := by
                    have hz := HZ.out
                    rw [hsL] at hz
                    have := (HM9.out HHF.out).set hz k
                    rw [hys] at this
                    unfold bpc
                    rw [HL.out]
                    exact this.mono (fun _ _ g => g.it HNH.out.d1 hK10 HR9.out.hb)
                  obtain ⟨fn, tmps, assign, body, hy, hR⟩ := HRR.out.y1 w2.heap.size (bcuts a b k) y0 y1 y2 y3 (bpc a b k) _ HJ10 HR10.hh (by have := bcuts_len a b k; omega) hyy
                  have HCE := Lib.hid (show bcuts a b (k + 1) = bcuts a b k ++ [bpc a b k] by
                    conv => lhs; unfold bcuts
                    rw [HL.out, HEE.out]
                    simp)
                  have HVL := Lib.hid (show bvalid (bpc a b k) = true by rw [bpc_valid ha hb hlt, HHF.out, HL.out, HR1.out, HOK.out.1]; rfl)
                  replace HJ10 := Lib.hid HJ10
                  replace HR10 := Lib.hid HR10
                  have HKK := Lib.hid hK10
                  clear hyy hK10 hsL
                  go_upto_region 13 with (fail)
                  (try rw [hys])
                  rw [← wpIn_wide (n := 2)]
                  gi_wp2
                  refine hR.mono ?_
                  rintro e W3 ⟨rfl, hJ3, hk3⟩
                  gi_wp2
                  go_wp2
                  go_meet
                  rw [HCE.out]
                  have e3 := hk3.2 w2.heap.size HR10.out.hh HNH.out.d1 HNH.out.d2 HR10.out.n3
                  refine ⟨Lib.hid hJ3, Lib.hid (HR10.out.bd HNH.out hk3), Lib.hid (fun j v hj => ⟨?_, (HX9.out j v hj).2⟩), Lib.hid (fun j => ?_), Lib.hid (fun _ => ((HM9.out HHF.out).mono (fun _ _ g => (g.it HNH.out.d1 HKK.out HR9.out.hb).bd hk3) : All2 _ _ _)), Lib.hid ?_, Lib.hid (HRR.out.tb _ _ _ hJ3)⟩
                  · exact (World.cell?_of_block (a := ⟨w2.heap.size, j, none⟩) e3.1).trans ((hB10.cell (p := ⟨w2.heap.size, j, none⟩) HR9.out.hh).trans (HX9.out j v hj).1)
                  · exact (World.frozen?_of_block (a := ⟨w2.heap.size, j, none⟩) e3.1).trans ((hB10.frozen (p := ⟨w2.heap.size, j, none⟩) HR9.out.hh).trans (HF9.out j))
                  · rw [List.all_append, HA.out, List.all_cons, HVL.out]; rfl
                · replace hm0 := hm0 rfl
                  clear hm2
                  have HCE := Lib.hid (show bcuts a b (k + 1) = bcuts a b k by
                    conv => lhs; unfold bcuts
                    rw [HL.out, HEE.out]
                    simp)
                  go_wp2_with fail
                  go_meet
                  rw [HCE.out]
                  exact ⟨HJ9, HR9, HX9, HF9, Lib.hid (fun h => HM9.out (HHF.out.trans h)), HA, HT9⟩
              case rest =>
                obtain ⟨HJ, HRK, HX, HF, HM, HA, HTK⟩ := hcut
                clear HJ9 HR9 HX9 HF9 HM9 HT9 HZ
                obtain ⟨sv, hsv, hss⟩ := HRK.out.g1.left HXX.out
                obtain ⟨tv, htv, htt⟩ := HRK.out.g2.left HYY.out
                have d1 := HRK.out.c1 k sv hsv
                have d2 := HRK.out.c2 k tv htv
                replace hzr1 := HRK.out.h1
                replace hzr2 := HRK.out.h2
                replace hzrh := HRK.out.hh
                obtain ⟨M, hM⟩ : ∃ M, smeet x y = M := ⟨_, rfl⟩
                obtain ⟨r2, hr2⟩ : ∃ r, decide (M.length ≤ 40) = r := ⟨_, rfl⟩
                have HME := Lib.hid hM
                have HR2 := Lib.hid hr2
                have HSS := Lib.hid hss.sps
                have HTT := Lib.hid htt.sps
                clear hM hr2 hss htt hsv htv
                go_upto_region 14 with (fail)
                (refine wp_region_bel (W := wc) [BIs (.int .i64 (k : Int)), BIs (.pointer (some ⟨s1, k, none⟩)), BIs (sv), BIs (.int .i64 (k : Int)), BIs (.pointer (some ⟨s2, k, none⟩)), BIs (tv), BIs (.int .i64 (k : Int)), (BIs (.int .i64 (top k))), (fun w v => ∃ q, v = .tuple #[q, .bool r2] ∧ OwnSp wc.heap.size w q (slim M)), (fun w v => ∃ q, v = .tuple #[q, .bool r2] ∧ OwnSp wc.heap.size w q (slim M)), (fun w v => OwnSp wc.heap.size w v (slim M)), BIs (.bool r2), (fun w v => OwnSp wc.heap.size w v (slim M)), BIs (.bool r2)] (by kernel_rfl) (fun u => by simp only [frU, Act.put, List.setIfInBounds_toArray, List.set_cons_succ, List.set_cons_zero, Nat.zero_add, Nat.reduceAdd]; exact rfl) (by kernel_rfl) ⟨bst_is _, bst_is _, bst_is _, bst_is _, bst_is _, bst_is _, bst_is _, (bst_is _), (fun _ _ _ hb ⟨q, h1, h2⟩ => ⟨q, h1, OwnSl.kept h2 hb⟩), (fun _ _ _ hb ⟨q, h1, h2⟩ => ⟨q, h1, OwnSl.kept h2 hb⟩), (fun _ _ _ hb h => OwnSl.kept h hb), bst_is _, (fun _ _ _ hb h => OwnSl.kept h hb), bst_is _, trivial⟩ ?_ ?_; exact ⟨stB rfl (fun u w3 hC hd Q K hK => by (go_step; exact hK _ _ rfl (Below.refl _ _) rfl)), stB rfl (fun u w3 hC hd Q K hK => by (have hu := bis (w := w3) (hd 0 rfl); rw [hu] at hK ⊢; clear hu; go_step; exact hK _ _ rfl (Below.refl _ _) rfl)), stB rfl (fun u w3 hC hd Q K hK => by (have hu := bis (w := w3) (hd 1 rfl); rw [hu] at hK ⊢; clear hu; have z1 := (hC.cell (p := ⟨s1, k, none⟩) hzr1).trans d1; go_step; exact hK _ _ rfl (Below.refl _ _) rfl)), stB rfl (fun u w3 hC hd Q K hK => by (go_step; exact hK _ _ rfl (Below.refl _ _) rfl)), stB rfl (fun u w3 hC hd Q K hK => by (have hu := bis (w := w3) (hd 3 rfl); rw [hu] at hK ⊢; clear hu; go_step; exact hK _ _ rfl (Below.refl _ _) rfl)), stB rfl (fun u w3 hC hd Q K hK => by (have hu := bis (w := w3) (hd 4 rfl); rw [hu] at hK ⊢; clear hu; have z1 := (hC.cell (p := ⟨s2, k, none⟩) hzr2).trans d2; go_step; exact hK _ _ rfl (Below.refl _ _) rfl)), stB rfl (fun u w3 hC hd Q K hK => by (go_step; exact hK _ _ rfl (Below.refl _ _) rfl)), stB rfl (fun u w3 hC hd Q K hK => by (have hu := bis (w := w3) (hd 6 rfl); rw [hu] at hK ⊢; clear hu; go_step; refine (FieldTop_any k hlt _ (HTK.out.below hC)).mono ?_; rintro e w4 ⟨rfl, rfl⟩; exact hK _ _ rfl (Below.refl _ _) rfl)), stB rfl (fun u w3 hC hd Q K hK => by (have hu := bis (w := w3) (hd 2 rfl); rw [hu] at hK ⊢; clear hu; have hu := bis (w := w3) (hd 5 rfl); rw [hu] at hK ⊢; clear hu; have hu := bis (w := w3) (hd 7 rfl); rw [hu] at hK ⊢; clear hu; go_step; refine (meetSpans_r HME.out HR2.out (HSS.out.below hC) (HTT.out.below hC) GX.out GY.out t0 t1).mono ?_; rintro e w4 ⟨z4, rfl, ho4, hb4⟩; exact hK _ _ rfl hb4 ⟨z4, rfl, OwnSl.mono ho4 hC.size⟩)), stB rfl (fun u w3 hC hd Q K hK => by (obtain ⟨y, hu, ho⟩ := hd 8 rfl; rw [hu] at hK ⊢; clear hu; go_step; exact hK _ _ rfl (Below.refl _ _) ⟨y, rfl, ho⟩)), stB rfl (fun u w3 hC hd Q K hK => by (obtain ⟨y, hu, ho⟩ := hd 9 rfl; rw [hu] at hK ⊢; clear hu; go_step; exact hK _ _ rfl (Below.refl _ _) ho)), stB rfl (fun u w3 hC hd Q K hK => by (obtain ⟨y, hu, -⟩ := hd 9 rfl; rw [hu] at hK ⊢; clear hu; go_step; exact hK _ _ rfl (Below.refl _ _) rfl)), stB rfl (fun u w3 hC hd Q K hK => by (have ho1 := hd 10 rfl; generalize u 10 = v1 at *; go_step; exact hK _ _ rfl (Below.refl _ _) ho1)), stB rfl (fun u w3 hC hd Q K hK => by (have hu := bis (w := w3) (hd 11 rfl); rw [hu] at hK ⊢; clear hu; go_step; exact hK _ _ rfl (Below.refl _ _) rfl)), trivial⟩); intro u w9' hb_w9' hF; rw [bis (w := w9') (hF 0 (by decide))]; rw [bis (w := w9') (hF 1 (by decide))]; rw [bis (w := w9') (hF 2 (by decide))]; rw [bis (w := w9') (hF 3 (by decide))]; rw [bis (w := w9') (hF 4 (by decide))]; rw [bis (w := w9') (hF 5 (by decide))]; rw [bis (w := w9') (hF 6 (by decide))]; generalize u 7 = vx7 at *; generalize u 8 = vx8 at *; generalize u 9 = vx9 at *; generalize u 10 = vx10 at *; rw [bis (w := w9') (hF 11 (by decide))]; have hz0 := hF 12 (by decide); generalize u 12 = z2 at *; rw [bis (w := w9') (hF 13 (by decide))]; clear hF
                replace hz0 : OwnSp wc.heap.size w9' z2 (slim M) := hz0
                obtain ⟨zb, zd, rfl, -, -⟩ := (OwnSp.sps hz0).form
                have hK9 := KIt.below (h := w2.heap.size) hb_w9'
                have hhd := hb_w9'.size
                obtain ⟨xk, hxk⟩ : ∃ xk, [x0, x1, x2, x3][k]? = some xk := ⟨_, List.getElem?_eq_getElem (by simpa using hlt)⟩
                have c0 := (hb_w9'.cell (p := ⟨w2.heap.size, k, none⟩) hzrh).trans (HX.out k xk hxk).1
                have f0 := (hb_w9'.frozen (p := ⟨w2.heap.size, k, none⟩) hzrh).trans (HF.out k)
                have hKS := hK9.trans (KIt.set w2.heap.size k w9' (.slice zb (slim M).length zd))
                have HJS := Lib.hid (HRR.out.st _ _ _ _ HJ.out hKS)
                have HRS := Lib.hid (HRK.out.it HNH.out hs1h hs2h hKS)
                have hok := HRR.out.ok _ _ _ HJ.out
                have HZS := Lib.hid (show SpV (PB X B l w2.heap.size (obk B (w9'.setCell ⟨w2.heap.size, k, none⟩ (.slice zb (slim M).length zd)))) (w9'.setCell ⟨w2.heap.size, k, none⟩ (.slice zb (slim M).length zd)) (.slice zb (slim M).length zd) (slim M) from
                  SpV.it HNH.out.d1 (KIt.set w2.heap.size k w9' (.slice zb (slim M).length zd)) (by omega) (SpV.own hz0 (fun j hj => by
                    have ho : obk B w9' = obk B wc := obk_same (hb_w9'.block B HRK.out.hb)
                    rcases hj with rfl | rfl | rfl | e | e
                    · exact HRK.out.hb
                    · exact hok.2.1
                    · exact hzrh
                    · rw [ho] at e; exact hok.2.2.2.2.2 j e.symm
                    · have := HXX0.out j e; omega)))
                obtain ⟨y0, y1, y2, y3, hys⟩ : ∃ y0 y1 y2 y3 : Value, [x0, x1, x2, x3].set k (.slice zb (slim M).length zd) = [y0, y1, y2, y3] := by
                  rcases (by omega : k = 0 ∨ k = 1 ∨ k = 2 ∨ k = 3) with rfl | rfl | rfl | rfl <;> exact ⟨_, _, _, _, rfl⟩
                have HYS := Lib.hid hys
                have HXS := Lib.hid (show ∀ (j : Nat) v, [y0, y1, y2, y3][j]? = some v → (w9'.setCell ⟨w2.heap.size, k, none⟩ (.slice zb (slim M).length zd)).cell? ⟨w2.heap.size, j, none⟩ = some v ∧ ∃ p n c, v = .slice p n c from fun j v hj => by
                  rw [← hys] at hj
                  by_cases e : j = k
                  · subst e
                    rw [List.getElem?_set_self (by simpa using hlt)] at hj
                    cases hj
                    exact ⟨World.cell?_setCell_same' _ _ _ (by rw [c0]; rfl), _, _, _, rfl⟩
                  · rw [List.getElem?_set_ne (fun h => e h.symm)] at hj
                    exact ⟨by rw [World.cell?_setCell_other _ _ _ _ (by intro h; cases h; exact e rfl)]; exact (hb_w9'.cell (p := ⟨w2.heap.size, j, none⟩) hzrh).trans (HX.out j v hj).1, (HX.out j v hj).2⟩)
                have HFS := Lib.hid (show ∀ j, (w9'.setCell ⟨w2.heap.size, k, none⟩ (.slice zb (slim M).length zd)).frozen? ⟨w2.heap.size, j, none⟩ = false from fun j => by
                  rw [World.frozen?_setCell]; exact (hb_w9'.frozen (p := ⟨w2.heap.size, j, none⟩) hzrh).trans (HF.out j))
                have HFK := Lib.hid (show hfit a b (k + 1) = (hf && r2) by rw [hfit_succ HXX.out HYY.out, HHF.out, HME.out, HR2.out])
                have HMS := Lib.hid (show hfit a b (k + 1) = true → All2 (SpV (PB X B l w2.heap.size (obk B (w9'.setCell ⟨w2.heap.size, k, none⟩ (.slice zb (slim M).length zd)))) (w9'.setCell ⟨w2.heap.size, k, none⟩ (.slice zb (slim M).length zd))) [y0, y1, y2, y3] (bmix a b (k + 1)) from fun h => by
                  rw [HFK.out, Bool.and_eq_true] at h
                  have h1 := (HM.out h.1).mono (fun _ _ g => g.it HNH.out.d1 hKS HRK.out.hb)
                  have h2 := HZS.out
                  have hsM : slim M = M := by unfold slim; rw [if_pos (of_decide_eq_true (HR2.out.trans h.2))]
                  rw [hsM] at h2
                  rw [← bmix_succ (bvalid_four ha).1 (bvalid_four hb).1 hlt HXX.out HYY.out, HME.out, ← HYS.out, hsM]
                  rw [hsM] at h1
                  exact All2.set h1 h2 k)
                clear hz0 hK9 hKS hok hys hxk
                cases hf
                · go_wp2_with fail
                  go_roundw
                  case rel => exact ⟨k + 1, y0, y1, y2, y3, by omega, by go_num, congrArg Value.bool (HFK.out.trans (by simp)).symm, HJS, HRS, HXS, HFS, HMS, HA, Lib.hid (HRR.out.tb _ _ _ HJS.out)⟩
                  case measure => simp [intOf]; omega
                · go_wp2_with fail
                  go_roundw
                  case rel => exact ⟨k + 1, y0, y1, y2, y3, by omega, by go_num, congrArg Value.bool (HFK.out.trans (by simp)).symm, HJS, HRS, HXS, HFS, HMS, HA, Lib.hid (HRR.out.tb _ _ _ HJS.out)⟩
                  case measure => simp [intOf]; omega
            · have HB2 := Lib.hid (HBD.out rfl)
              clear HBD
              obtain ⟨fn, tmps, assign, body, hy, hR⟩ := HRR.out.y0 _ _ _ HJ9.out
              go_upto_region 9 with (fail)
              rw [← wpIn_wide (n := 2)]
              gi_wp2
              refine hR.mono ?_
              rintro e W3 ⟨rfl, hx3⟩
              gi_wp2
              go_wp2
              refine bodyPost_ret (results_none rfl _ _ _) rfl ?_
              exact ⟨⟨_, rfl⟩, .inr ⟨hx3, HB2.out⟩⟩
        · have hkn : k = 4 := by omega
          subst hkn
          go_wp2
          go_end0
          exact ⟨⟨_, rfl⟩, .inl ⟨w2.heap.size, by rw [HEM.out]; exact ⟨HJ.out, HA.out⟩⟩⟩
  · have HEM := Lib.hid (show bcut a b = [] by
      unfold bcut
      rw [bempty_meet (bvalid_four ha).1 (bvalid_four hb).1 HE.out, HE.out]
      rfl)
    clear hem htc
    go_wp2
    refine bodyPost_ret (results_none rfl _ _ _) rfl ?_
    exact ⟨⟨_, rfl⟩, .inl ⟨s1, by rw [HEM.out]; exact ⟨HRR.out.st _ _ _ _ (H0.out s1 (.inl rfl)) (KIt.below hb1), rfl⟩⟩⟩
end Go.Proofs.YtfcbbahlhjdefaaDoor
