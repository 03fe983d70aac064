/- Two drawn boxes: l20Two and DrawMergeBoxes. -/
import Derived.Test.YtajcogpfmpehkaaDoorDrB
import Derived.Test.YtajcogpfmpehkaaDoorBmX
import Derived.Deep.DeepCutAuto
import Derived.Deep.CutBlock
namespace Go.Proofs.YtajcogpfmpehkaaDoor
open Go.RowKit
def BSz (b : Bx) : Prop := b.length ≤ 5 ∧ ∀ (k : Nat) xs, b[k]? = some xs → xs.length ≤ 40
theorem BSz.of {b : Bx} (h : bvalid b = true) : BSz b := ⟨by rw [(bvalid_four h).1]; decide, fun k xs hx => bvalid_lens h k xs hx⟩
theorem BSz.nil : BSz [] := ⟨by decide, fun k xs hx => by simp at hx⟩
theorem BSz.ball : BSz ball := ⟨by decide, fun k xs hx => by
  match k, hx with
  | 0, hx => cases hx; decide
  | 1, hx => cases hx; decide
  | 2, hx => cases hx; decide
  | 3, hx => cases hx; decide
  | k + 4, hx => simp [Go.Proofs.YtajcogpfmpehkaaDoor.ball] at hx⟩
theorem BSz.set {b : Bx} (h : BSz b) {j : Nat} {xs : List Sp} (hx : xs.length ≤ 40) : BSz (b.set j xs) := ⟨by rw [List.length_set]; exact h.1, set_sets h.2 hx⟩
/-- The second box in the making: its variable is block p5; V is the world with both variables. -/
structure TwJ (R : Nat) (bs : List Int) (w V : World) (p5 : Nat) (wx : World) (q : Nat) (u : Value) (b : Bx) : Prop where
  rd : RdAt R bs wx q
  sz : V.heap.size ≤ wx.heap.size
  keep : ∀ k, w.heap.size ≤ k → k < V.heap.size → k ≠ p5 → wx.heap[k]? = V.heap[k]?
  mv : Mv R w.heap.size w wx
  c5 : wx.cell? ⟨p5, 0, none⟩ = some u
  f5 : wx.frozen? ⟨p5, 0, none⟩ = false
  B : Rws (w.heap.size + 2) (hole wx (some p5)) u b
  sb : BSz b
  hR : R < w.heap.size
  h5 : w.heap.size + 2 ≤ p5
  l5 : p5 < V.heap.size
theorem TwJ.mv' {R : Nat} {bs : List Int} {w V : World} {p5 : Nat} {wx wy : World} {q q' : Nat} {u : Value} {b : Bx} (S : TwJ R bs w V p5 wx q u b) (hr : RdAt R bs wy q') (hm : Mv R wx.heap.size wx wy) : TwJ R bs w V p5 wy q' u b :=
  have h1 := S.hR; have h2 := S.h5; have h3 := S.l5; have h4 := S.sz
  ⟨hr, Nat.le_trans S.sz hm.size, fun k k1 k2 k3 => (hm.block k (by omega) (by omega)).trans (S.keep k k1 k2 k3), S.mv.trans (hm.mono S.mv.size), (mvC hm p5 (by omega) (by omega) 0).trans S.c5, (mvF hm p5 (by omega) (by omega) 0).trans S.f5,
    S.B.sub (Sb.hole hm.size (fun k k1 k2 k3 => ⟨k3, hm.block k k2 (by omega)⟩)), S.sb, h1, h2, h3⟩
theorem TwJ.set {R : Nat} {bs : List Int} {w V : World} {p5 : Nat} {wx : World} {q : Nat} {u u' : Value} {b b' : Bx} (S : TwJ R bs w V p5 wx q u b) (hB : Rws (w.heap.size + 2) (hole wx (some p5)) u' b') (hs : BSz b') : TwJ R bs w V p5 (wx.setCell ⟨p5, 0, none⟩ u') q u' b' :=
  have h1 := S.hR; have h2 := S.h5; have h3 := S.l5; have h4 := S.sz
  ⟨S.rd.up ((Below.refl _ _).setCell (by simp only; omega) _), by simpa using S.sz, fun k k1 k2 k3 => (Below.heap_setCell _ _ _ _ (by simpa using k3)).trans (S.keep k k1 k2 k3), S.mv.setCell (by simp only; omega) _, World.cell?_setCell_same' _ _ _ (by rw [S.c5]; rfl), by rw [World.frozen?_setCell]; exact S.f5,
    hB.sub (Sb.hole (by simp) (fun k k1 k2 k3 => ⟨k3, Below.heap_setCell _ _ _ _ (fun e => k3 (by rw [e]))⟩)), hs, h1, h2, h3⟩
/-- A store into a block behind V. -/
theorem TwJ.up {R : Nat} {bs : List Int} {w V : World} {p5 : Nat} {wx : World} {q : Nat} {u : Value} {b b' : Bx} (S : TwJ R bs w V p5 wx q u b) {g o : Nat} {s : Value} (hg : V.heap.size ≤ g) (hB : Rws (w.heap.size + 2) (hole (wx.setCell ⟨g, o, none⟩ s) (some p5)) u b') (hs : BSz b') : TwJ R bs w V p5 (wx.setCell ⟨g, o, none⟩ s) q u b' :=
  have h1 := S.hR; have h2 := S.h5; have h3 := S.l5; have h4 := S.sz
  have hne : p5 ≠ g := by omega
  ⟨S.rd.up ((Below.refl _ _).setCell (by simp only; omega) _), by simpa using S.sz, fun k k1 k2 k3 => (Below.heap_setCell _ _ _ _ (by simp only; omega)).trans (S.keep k k1 k2 k3), S.mv.setCell (by simp only; omega) _,
    (World.cell?_of_block (a := ⟨p5, 0, none⟩) (Below.heap_setCell _ _ _ _ (by simpa using hne))).trans S.c5, by rw [World.frozen?_setCell]; exact S.f5, hB, hs, h1, h2, h3⟩
theorem TwJ.at {R : Nat} {bs : List Int} {w V : World} {p5 : Nat} {wx : World} {q : Nat} {u : Value} {b : Bx} (S : TwJ R bs w V p5 wx q u b) {k o : Nat} (h1 : w.heap.size ≤ k) (h2 : k < V.heap.size) (h3 : k ≠ p5) : wx.cell? ⟨k, o, none⟩ = V.cell? ⟨k, o, none⟩ ∧ wx.frozen? ⟨k, o, none⟩ = V.frozen? ⟨k, o, none⟩ :=
  ⟨World.cell?_of_block (a := ⟨k, o, none⟩) (S.keep k h1 h2 h3), World.frozen?_of_block (a := ⟨k, o, none⟩) (S.keep k h1 h2 h3)⟩
theorem TwJ.first {R : Nat} {bs : List Int} {w V : World} {p5 : Nat} {wx : World} {q : Nat} {u v : Value} {a b : Bx} (S : TwJ R bs w V p5 wx q u b) (hA : Rws (w.heap.size + 2) (hole V (some p5)) v a) : Rws (w.heap.size + 2) (hole wx (some p5)) v a :=
  hA.sub (Sb.hole S.sz (fun k k1 k2 k3 => ⟨k3, S.keep k (by omega) k2 (fun e => k3 (by rw [e]))⟩))
theorem TwJ.outA {R : Nat} {bs : List Int} {w V : World} {p5 : Nat} {wx wz : World} {q : Nat} {u v : Value} {a b : Bx} (S : TwJ R bs w V p5 wx q u b) (hA : Rws (w.heap.size + 2) (hole V (some p5)) v a) (hs : wx.heap.size = wz.heap.size) (hk : ∀ k, w.heap.size + 2 ≤ k → wz.heap[k]? = wx.heap[k]?) : Rws w.heap.size wz v a :=
  (((S.first hA).sub (Sb.out _ _ _)).keep ⟨by omega, fun k k1 _ => hk k k1⟩).mono (by omega)
theorem TwJ.outB {R : Nat} {bs : List Int} {w V : World} {p5 : Nat} {wx wz : World} {q : Nat} {u : Value} {b : Bx} (S : TwJ R bs w V p5 wx q u b) (hs : wx.heap.size = wz.heap.size) (hk : ∀ k, w.heap.size + 2 ≤ k → wz.heap[k]? = wx.heap[k]?) : Rws w.heap.size wz u b :=
  ((S.B.sub (Sb.out _ _ _)).keep ⟨by omega, fun k k1 _ => hk k k1⟩).mono (by omega)
def DrawnTw (R : Nat) (w : World) (e : Ending) (w' : World) : Prop :=
  ∃ v u a b, e = .returned (.tuple #[.agg #[v], .agg #[u]]) ∧ Rws w.heap.size w' v a ∧ Rws w.heap.size w' u b ∧ BSz a ∧ BSz b ∧ Mv R w.heap.size w w'
set_option maxHeartbeats 4000000 in
set_option maxRecDepth 100000 in
theorem two_any (R : Nat) (bs : List Int) (p : Nat) (w : World) (h : RdAt R bs w p) (hp : p ≤ 100000) :
    Calls Tryd.prog 54 #[.pointer (some ⟨R, 0, none⟩)] w (DrawnTw R w) := by
  have hR := h.lt
  obtain ⟨j0, hj, hj0, hj1, hj2⟩ := info_parts infoSl
  obtain ⟨W, hW⟩ : ∃ W, ((w.alloc (.cells #[.slice none 0 0] 32)).alloc (.cells #[.slice none 0 0] 32)) = W := ⟨_, rfl⟩
  have hal : Below w.heap.size w W := by rw [← hW]; (repeat' (first | with_reducible exact Below.refl _ _ | with_reducible assumption | with_reducible refine Below.setCell ?_ ?_ _ | with_reducible refine Below.alloc ?_ ?_ _ | with_reducible refine Below.drew ?_ | with_reducible refine belDrewN ?_ _ | with_reducible refine Below.trans ?_ (Below.mono (by assumption) ?_) | omega | (simp; omega) | (simp; done)))
  have qs : W.heap.size = w.heap.size + 1 + 1 := by rw [← hW]; simp
  have HA4 := alloc2_cf w #[.slice none 0 0] #[.slice none 0 0] 32 32
  rw [hW] at HA4
  have s0 : W.cell? ⟨w.heap.size, 0, none⟩ = some (.slice none 0 0) := by rw [(HA4.1 0).1]; rfl
  have t0 : W.frozen? ⟨w.heap.size, 0, none⟩ = false := (HA4.1 0).2
  have s1 : W.cell? ⟨w.heap.size + 1, 0, none⟩ = some (.slice none 0 0) := by rw [(HA4.2 0).1]; rfl
  have t1 : W.frozen? ⟨w.heap.size + 1, 0, none⟩ = false := (HA4.2 0).2
  clear HA4
  go_enter Tryd.func54, Tryd.ntmps54
  go_wp2_with fail
  refine (drawBx16_any R bs p _ (h.below hal) (by omega)).mono ?_
  rintro e w1 ⟨v1, a, q1, rfl, hA1, hla, hea, hr1, hq1, hm1⟩
  have hz1 := hm1.size
  obtain ⟨aa, ac, rfl, -, -⟩ := hA1.form
  obtain ⟨V1, hV1⟩ : ∃ V, w1.alloc (.cells #[.slice aa a.length ac] 32) = V := ⟨_, rfl⟩
  have hal1 : Below w1.heap.size w1 V1 := by rw [← hV1]; exact (Below.refl _ _).alloc (Nat.le_refl _) _
  have y1 : V1.heap.size = w1.heap.size + 1 := by rw [← hV1]; simp
  have c1 : V1.cell? ⟨w1.heap.size, 0, none⟩ = some (.slice aa a.length ac) := by rw [← hV1]; simp
  have hm1' : Mv R W.heap.size W V1 := hm1.trans (Mv.of_below (hal1.mono hz1))
  go_wp2_with fail
  refine (drawBx16_any R bs q1 _ (hr1.below hal1) (by omega)).mono ?_
  rintro e w2 ⟨v2, b, q2, rfl, hB2, hlb, heb, hr2, hq2, hm2⟩
  have hz2 := hm2.size
  obtain ⟨ba, bc, rfl, -, -⟩ := hB2.form
  obtain ⟨V2, hV2⟩ : ∃ V, w2.alloc (.cells #[.slice ba b.length bc] 32) = V := ⟨_, rfl⟩
  have hal2 : Below w2.heap.size w2 V2 := by rw [← hV2]; exact (Below.refl _ _).alloc (Nat.le_refl _) _
  have y2 : V2.heap.size = w2.heap.size + 1 := by rw [← hV2]; simp
  have hmW : Mv R W.heap.size W w2 := hm1'.trans (hm2.mono (by omega))
  have hm12 : Mv R w1.heap.size w1 w2 := (Mv.of_below hal1).trans (hm2.mono hal1.size)
  have hso : Sb (w.heap.size + 2) w2 (hole V2 (some w2.heap.size)) := Sb.of (by rw [hole_size]; omega) (fun k k1 k2 => (hole_block (fun e => by cases e; omega)).trans (hal2.block k k2))
  have HA := Lib.hid (show Rws (w.heap.size + 2) (hole V2 (some w2.heap.size)) (.slice aa a.length ac) a from ((hA1.keep ⟨hm12.size, fun k k1 k2 => hm12.block k k2 (by omega)⟩).mono (by omega)).sub hso)
  have HSA := Lib.hid (show BSz a from ⟨hla, hea⟩)
  have g0 : V2.cell? ⟨w.heap.size, 0, none⟩ = some (.slice none 0 0) := (hal2.cell (p := ⟨w.heap.size, 0, none⟩) (by simp only; omega)).trans ((mvC hmW w.heap.size (by omega) (by omega) 0).trans s0)
  have f0 : V2.frozen? ⟨w.heap.size, 0, none⟩ = false := (hal2.frozen (p := ⟨w.heap.size, 0, none⟩) (by simp only; omega)).trans ((mvF hmW w.heap.size (by omega) (by omega) 0).trans t0)
  have g1 : V2.cell? ⟨w.heap.size + 1, 0, none⟩ = some (.slice none 0 0) := (hal2.cell (p := ⟨w.heap.size + 1, 0, none⟩) (by simp only; omega)).trans ((mvC hmW (w.heap.size + 1) (by omega) (by omega) 0).trans s1)
  have f1 : V2.frozen? ⟨w.heap.size + 1, 0, none⟩ = false := (hal2.frozen (p := ⟨w.heap.size + 1, 0, none⟩) (by simp only; omega)).trans ((mvF hmW (w.heap.size + 1) (by omega) (by omega) 0).trans t1)
  have g4 : V2.cell? ⟨w1.heap.size, 0, none⟩ = some (.slice aa a.length ac) := (hal2.cell (p := ⟨w1.heap.size, 0, none⟩) (by simp only; omega)).trans ((mvC hm2 w1.heap.size (by omega) (by omega) 0).trans c1)
  have S : TwJ R bs w V2 w2.heap.size V2 q2 (.slice ba b.length bc) b := by
    refine ⟨hr2.below hal2, Nat.le_refl _, fun _ _ _ _ => rfl, ((Mv.of_below hal).trans (hmW.mono hal.size)).trans (Mv.of_below (hal2.mono (by omega))), by rw [← hV2]; simp, by rw [← hV2]; exact frz_new w2 _ _ 0, ?_, ⟨hlb, heb⟩, hR, by omega, by omega⟩
    exact (hB2.mono (by omega)).sub hso
  have hp4 : w.heap.size + 2 ≤ w1.heap.size := by omega
  have hp45 : w1.heap.size < w2.heap.size := by omega
  have hV2z : w2.heap.size < V2.heap.size := by omega
  have HV := Lib.hid (And.intro g0 (And.intro f0 (And.intro g1 (And.intro f1 g4))))
  clear s0 t0 s1 t1 c1 hA1 hB2 hr1 hr2 hm1 hm2 hm1' hmW hm12 hso hea heb g0 f0 g1 f1 g4 hal hal1 hal2 hla hlb
  go_wp2_with fail
  refine (pick_any R bs q2 5 _ S.rd (by omega) (by omega)).mono ?_
  rintro e w3 ⟨x, rfl, x0, x1, -, hr3, hm3⟩
  replace S := S.mv' hr3 hm3
  clear hr3 hm3 x1
  have hx2 : q2 + 1 ≤ 300000 := by omega
  go_upto_block 0 with fail
  go_cut [] (fun wx => ∃ q ua n uc b', TwJ R bs w V2 w2.heap.size wx q (.slice ua n uc) b')
  case first =>
    by_cases hx0 : x = 0
    · subst hx0
      have c5 := S.c5; have n5 := S.f5; have z5 := S.sz
      have c4 := (S.at (k := w1.heap.size) (o := 0) (by omega) (by omega) (by omega)).1.trans HV.out.2.2.2.2
      have HA3 := Lib.hid ((S.first HA.out).sub (Sb.out _ _ _))
      have HB3 := Lib.hid (S.B.sub (Sb.out _ _ _))
      have HSB := Lib.hid S.sb
      obtain ⟨M, hM⟩ : ∃ M, meetV a b = M := ⟨_, rfl⟩
      have HM := Lib.hid hM
      clear hM
      have ST := Lib.hid S
      clear S
      go_wp2_with fail
      refine (specBMt_e HA3.out HB3.out (by have := HSA.out.1; omega) (by have := HSB.out.1; omega) (fun k xs hx => by have := HSA.out.2 k xs hx; omega) (fun k xs hx => by have := HSB.out.2 k xs hx; omega) HM.out).mono ?_
      rintro e w4 ⟨z, rfl, hz, hb4⟩
      have HZ := Lib.hid hz
      have hz4 := hb4.size
      have S4 := Lib.hid (ST.out.mv' (ST.out.rd.below hb4) (Mv.of_below hb4))
      have n54 := S4.out.f5
      have c54 := S4.out.c5
      have h54 : w2.heap.size < w4.heap.size := by have := S4.out.sz; omega
      obtain ⟨za, zc, rfl, -, -⟩ := HZ.out.form
      have S5 := Lib.hid (S4.out.set (u' := .slice za (M.getD []).length zc) (b' := M.getD []) ((HZ.out.sub (Sb.into (fun g hg => by cases hg; omega))).mono (by omega)) (by
        cases M with
        | none => exact BSz.nil
        | some m => exact BSz.of (meetV_valid HM.out)))
      have z5' := S5.out.sz
      clear hz c4 c5 n5 HA3 HB3 HSB ST HZ hb4
      obtain ⟨V4, hV4⟩ : ∃ V, w4.setCell ⟨w2.heap.size, 0, none⟩ (.slice za (M.getD []).length zc) = V := ⟨_, rfl⟩
      rw [hV4] at S5 z5'
      have c54' := S5.out.c5
      have n54' := S5.out.f5
      have h54' : w2.heap.size < V4.heap.size := by omega
      cases M with
      | none =>
        simp only [Option.getD_none, List.length_nil] at S5 c54' hV4 ⊢
        go_wp2_with fail
        refine (boxAll_any _).mono ?_
        rintro e w6 ⟨v6, rfl, ho6, hb6⟩
        have H6 := Lib.hid ho6.rws
        obtain ⟨ya, yc, rfl, -, -⟩ := H6.out.form
        have S6 := Lib.hid (S5.out.mv' (S5.out.rd.below hb6) (Mv.of_below hb6))
        have n56 := S6.out.f5
        have c56 := S6.out.c5
        have h56 : w2.heap.size < w6.heap.size := by have := S6.out.sz; omega
        have S7 := Lib.hid (S6.out.set (u' := .slice ya ball.length yc) (b' := ball) ((H6.out.sub (Sb.into (fun g hg => by cases hg; omega))).mono (by omega)) BSz.ball)
        clear ho6 H6 S5 hb6
        obtain ⟨V6, hV6⟩ : ∃ V, w6.setCell ⟨w2.heap.size, 0, none⟩ (.slice ya ball.length yc) = V := ⟨_, rfl⟩
        rw [hV6] at S7
        have S8 := S7.out
        clear S6 S7
        have SM := Lib.hid S8
        clear S8
        go_wp2_with fail
        go_meet
        exact ⟨_, _, _, _, _, SM.out⟩
      | some m =>
        have hm4 : m.length = 4 := (bvalid_four (meetV_valid HM.out)).1
        simp only [Option.getD_some, hm4] at S5 c54' hV4 ⊢
        have S8 := S5.out
        clear S5 S4
        have SM := Lib.hid S8
        clear S8
        go_wp2_with fail
        go_meet
        exact ⟨_, _, _, _, _, SM.out⟩
    · have hxn : (x == 0) = false := by simpa using hx0
      have hxd : ¬ x = 0 := hx0
      obtain ⟨bv, hbv⟩ : ∃ bv : Bool, (x == 1) = bv := ⟨_, rfl⟩
      cases bv
      · have hxm : ¬ x = 1 := by simpa using hbv
        have SM := Lib.hid S
        clear S
        go_wp2_with fail
        go_meet
        exact ⟨_, _, _, _, _, SM.out⟩
      · obtain rfl : x = 1 := by simpa using hbv
        have z5 := S.sz
        have c4 := (S.at (k := w1.heap.size) (o := 0) (by omega) (by omega) (by omega)).1.trans HV.out.2.2.2.2
        have HA3 := Lib.hid ((S.first HA.out).sub (Sb.out _ _ _))
        have ST := Lib.hid S
        clear S
        obtain ⟨va, hva⟩ : ∃ va, bvalid a = va := ⟨_, rfl⟩
        have HVA := Lib.hid hva
        go_wp2_with fail
        refine (specBV_b HA3.out hva).mono ?_
        rintro e w4 ⟨rfl, hb4⟩
        have S4 := Lib.hid (ST.out.mv' (ST.out.rd.below hb4) (Mv.of_below hb4))
        clear hva ST HA3 c4 hb4
        cases va
        · have S := S4.out
          clear S4
          have SM := Lib.hid S
          clear S
          go_wp2_with fail
          go_meet
          exact ⟨_, _, _, _, _, SM.out⟩
        · have ha4 : a.length = 4 := (bvalid_four HVA.out).1
          go_wp2_with fail
          refine (pick_any R bs _ 4 _ S4.out.rd (by omega) (by omega)).mono ?_
          rintro e w5 ⟨k0, rfl, k00, k01, -, hr5, hm5⟩
          have k02 := k01 (by omega)
          obtain ⟨kk, rfl⟩ := Int.eq_ofNat_of_zero_le k00
          have hk4 : kk < 4 := by omega
          have S5 := Lib.hid (S4.out.mv' hr5 hm5)
          clear S4 hr5 hm5 k01
          have z5 := S5.out.sz
          have c4 := (S5.out.at (k := w1.heap.size) (o := 0) (by omega) (by omega) (by omega)).1.trans HV.out.2.2.2.2
          have hal6 : Below w5.heap.size w5 (w5.alloc (.cells #[] 71)) := (Below.refl _ _).alloc (Nat.le_refl _) _
          have hlit : OwnSl w5.heap.size 71 1 enc1 (w5.alloc (.cells #[] 71)) (.slice (some ⟨w5.heap.size, 0, none⟩) 0 0) ([] : List Value) := litOwn 71 1 enc1 (Nat.le_refl _)
          have c44 := (hal6.cell (p := ⟨w1.heap.size, 0, none⟩) (by simp only; omega)).trans c4
          have HA5 := S5.out.first HA.out
          obtain ⟨vs, hv1, hv2⟩ := id HA5
          have hvl : vs.length = 4 := hv2.1.trans ha4
          obtain ⟨v7, w7, hrun, hown7, hb7⟩ := run_append_copy (sz := 1) (enc := enc1) (by omega) (fun _ => rfl) (P := Tryd.prog) 30 30 71 j0 _ 24 Tryd.underlying30 hj hj0 hj1 hj2 rfl _ hlit (by simp) (((hv1.sub (Sb.out _ _ _)).below hal6).at) (by omega)
          have hB7 : Below w5.heap.size w5 w7 := hal6.trans (hb7.mono hal6.size)
          have S7 := Lib.hid (S5.out.mv' (S5.out.rd.below hB7) (Mv.of_below hB7))
          have hP7 : BxP (some w2.heap.size) (w.heap.size + 2) w7 v7 a := by
            refine ⟨vs, OwnSl.mono hown7 (by omega), fun z z1 e => ?_, hv2.mono (fun _ _ g => g.sub ?_)⟩
            · have := World.ownsRow.lt hown7 z z1
              cases e; omega
            · refine ⟨by rw [hole_size, hole_size, hole_size]; exact hB7.size, fun p c p1 hp => ?_⟩
              obtain ⟨k1, hp⟩ := hole_cell.1 hp
              have hl := World.block_lt_of_cell? _ _ hp
              refine hole_cell.2 ⟨fun e => ?_, hole_cell.2 ⟨k1, (World.cell?_of_block (hB7.block p.block hl)).trans hp⟩⟩
              have := (World.ownsRow.lt hown7 p.block e.symm).1
              omega
          obtain ⟨g5, cap5, rfl, hg5, hg5l, hlc5, hmc5, hf5⟩ : ∃ g cap, v7 = .slice (some ⟨g, 0, none⟩) 4 cap ∧ w5.heap.size ≤ g ∧ g < w7.heap.size ∧ 4 ≤ cap ∧ cap ≤ maxLen ∧ (∀ o, w7.frozen? ⟨g, o, none⟩ = false) := by
            rcases OwnSl.form hown7 with ⟨_, h⟩ | ⟨q, c, h, h1, h2, h3, h4, h5⟩
            · rw [h] at hvl; cases hvl
            · exact ⟨q, c, by rw [h, hvl], h1, h2, by omega, h4, h5⟩
          have n57 := S7.out.f5
          have c57 := S7.out.c5
          have z57 := S7.out.sz
          have S8 := Lib.hid (S7.out.set (u' := .slice (some ⟨g5, 0, none⟩) 4 cap5) (b' := a) hP7.rws HSA.out)
          have HP8 := Lib.hid (show BxP (some w2.heap.size) (w.heap.size + 2) (w7.setCell ⟨w2.heap.size, 0, none⟩ (.slice (some ⟨g5, 0, none⟩) 4 cap5)) (.slice (some ⟨g5, 0, none⟩) 4 cap5) a from hP7.keep (by simp) (fun k k1 k2 k3 => Below.heap_setCell _ _ _ _ (fun e => k3 (by rw [e]))) (fun z hz => .inl hz))
          obtain ⟨V8, hV8⟩ : ∃ V, w7.setCell ⟨w2.heap.size, 0, none⟩ (.slice (some ⟨g5, 0, none⟩) 4 cap5) = V := ⟨_, rfl⟩
          have y8 : V8.heap.size = w7.heap.size := by rw [← hV8]; simp
          have hf8 : ∀ o, V8.frozen? ⟨g5, o, none⟩ = false := fun o => by rw [← hV8, World.frozen?_setCell]; exact hf5 o
          rw [hV8] at S8 HP8
          clear hown7 hP7 hv1 hv2 HA5 S7 hlit hb7 hB7 hal6
          rw [ha4] at hrun
          go_wp2_with (at_builtin; refine wpList_append_run rfl _ _ 30 rfl rfl rfl hrun ?_)
          have c58 := S8.out.c5
          have hl58 : w2.heap.size < V8.heap.size := by omega
          have hgl8 : g5 < V8.heap.size := by omega
          have hneb : w2.heap.size ≠ R := by omega
          have hneg : g5 ≠ R := by omega
          have hkl : kk < a.length := by omega
          obtain ⟨s0, xs0, d0, -, -⟩ := HP8.out.at hkl
          go_wp2_with fail
          refine wp_region_last (CM R bs _ 260 V8) (fun a b => Mv R a.heap.size a b) (bof [BIs (.pointer (some ⟨w2.heap.size, 0, none⟩)), BIs (.slice (some ⟨g5, 0, none⟩) 4 cap5), BIs (.int .i64 (kk : Int)), BIs (.pointer (some ⟨R, 0, none⟩)), BIs (.int .i64 (kk : Int)), (BIs (.int .i64 (top kk))), (FSet V8.heap.size 40), BIs (.pointer (some ⟨g5, kk, none⟩))]) (fun _ _ _ => True) (fun w9 => ∃ wy q a6 c6 xs, TwJ R bs w V2 w2.heap.size wy q (.slice (some ⟨g5, 0, none⟩) 4 cap5) a ∧ BxP (some w2.heap.size) (w.heap.size + 2) wy (.slice (some ⟨g5, 0, none⟩) 4 cap5) a ∧ V8.heap.size ≤ wy.heap.size ∧ OwnSp V8.heap.size wy (.slice a6 xs.length c6) xs ∧ xs.length ≤ 40 ∧ w9 = wy.setCell ⟨g5, kk, none⟩ (.slice a6 xs.length c6)) 8 (by kernel_rfl) rfl (fun u => by simp only [frU, Act.put, List.setIfInBounds_toArray, List.set_cons_succ, List.set_cons_zero, Nat.zero_add, Nat.reduceAdd]; exact rfl) (by kernel_rfl) (by kernel_rfl) (fun iz wz wy vz hbz hz => bof_mst [BIs (.pointer (some ⟨w2.heap.size, 0, none⟩)), BIs (.slice (some ⟨g5, 0, none⟩) 4 cap5), BIs (.int .i64 (kk : Int)), BIs (.pointer (some ⟨R, 0, none⟩)), BIs (.int .i64 (kk : Int)), (BIs (.int .i64 (top kk))), (FSet V8.heap.size 40), BIs (.pointer (some ⟨g5, kk, none⟩))] ⟨mst_is _, mst_is _, mst_is _, mst_is _, mst_is _, (mst_is _), (mst_set (by omega)), mst_is _, trivial⟩ iz wz wy vz hbz hz) (CM.start S8.out.rd) ?_ ?_; (exact ⟨stSm rfl (fun m u w3 hm hC hd Q K hK => by (go_step; exact hK _ _ rfl hC.same (Mv.refl _ _ _) rfl)), stSm rfl (fun m u w3 hm hC hd Q K hK => by (have hu := bis (w := w3) (hd 0 rfl); rw [hu] at hK ⊢; clear hu; obtain ⟨q3, hr3, hq3, hM⟩ := id hC; have z0 := (mvC hM w2.heap.size hl58 hneb 0).trans c58; go_step; exact hK _ _ rfl hC.same (Mv.refl _ _ _) rfl)), stSm rfl (fun m u w3 hm hC hd Q K hK => by (go_step; exact hK _ _ rfl hC.same (Mv.refl _ _ _) rfl)), stSm rfl (fun m u w3 hm hC hd Q K hK => by (go_step; exact hK _ _ rfl hC.same (Mv.refl _ _ _) rfl)), stSm rfl (fun m u w3 hm hC hd Q K hK => by (go_step; exact hK _ _ rfl hC.same (Mv.refl _ _ _) rfl)), stSm rfl (fun m u w3 hm hC hd Q K hK => by (have hu := bis (w := w3) (hd 4 rfl); rw [hu] at hK ⊢; clear hu; obtain ⟨q3, hr3, hq3, hM⟩ := id hC; go_step; refine (specFTop_any kk hk4 _).mono ?_; rintro e _ ⟨rfl, rfl⟩; exact hK _ _ rfl hC.same (Mv.refl _ _ _) rfl)), stSm rfl (fun m u w3 hm hC hd Q K hK => by (have hu := bis (w := w3) (hd 3 rfl); rw [hu] at hK ⊢; clear hu; have hu := bis (w := w3) (hd 5 rfl); rw [hu] at hK ⊢; clear hu; obtain ⟨q3, hr3, hq3, hM⟩ := id hC; go_step; refine (drawSet_any R bs _ kk hk4 _ hr3 (by omega)).mono ?_; rintro e w4 ⟨v4, xs4, q4, rfl, ho4, hl4, hi4, hr4, hq4, hm4⟩; exact hK _ _ rfl (hC.mv hr4 (by omega) hm4) hm4 (FSet.mk ho4 hM.size hl4))), stSm rfl (fun m u w3 hm hC hd Q K hK => by (have hu := bis (w := w3) (hd 1 rfl); rw [hu] at hK ⊢; clear hu; have hu := bis (w := w3) (hd 2 rfl); rw [hu] at hK ⊢; clear hu; go_step; exact hK _ _ rfl hC.same (Mv.refl _ _ _) rfl)), ⟨rfl, fun m u w3 hm hC hF Q K hK => by (dsimp only at hK ⊢; have hu := bis (w := w3) (hF 7 (by decide)); rw [hu] at hK ⊢; clear hu; obtain ⟨a6, c6, xs6, hu, h6, hl6⟩ := hF 6 (by decide); rw [hu] at hK ⊢; clear hu; obtain ⟨q3, hr3, hq3, hM⟩ := id hC; have z0 := (mvC hM g5 hgl8 hneg kk).trans d0; have z1 := (mvF hM g5 hgl8 hneg kk).trans (hf8 kk);  go_step; exact hK _ _ rfl ⟨w3, q3, a6, c6, xs6, S8.out.mv' hr3 hM, HP8.out.mv hM (by omega), hM.size, h6, hl6, rfl⟩ (fun _ _ => trivial))⟩⟩); intro u w9 hD _
          obtain ⟨wy, q9, a9, c9, xs9, S9, P9, hz9', h9, hl9, rfl⟩ := hD
          have hset : Sps (w.heap.size + 2) (hole (hole wy (some w2.heap.size)) (some g5)) (.slice a9 xs9.length c9) xs9 := (((OwnSp.sps h9).sub ((Sb.into (fun z e => by cases e; omega)).trans (Sb.into (fun z e => by cases e; omega)))).mono (by omega))
          have P10 := P9.set hkl hset
          have S10 := S9.up (g := g5) (o := kk) (s := .slice a9 xs9.length c9) (by omega) P10.rws (HSA.out.set hl9)
          clear S8 HP8 S9 P9 P10 hset h9 d0 hf8
          have SM := Lib.hid S10
          clear S10
          go_wp2_with fail
          go_meet
          exact ⟨_, _, _, _, _, SM.out⟩
  case rest =>
    clear S
    obtain ⟨q, ua, n, uc, b', S⟩ := hcut
    have d4 := (S.at (k := w1.heap.size) (o := 0) (by omega) (by omega) (by omega)).1.trans HV.out.2.2.2.2
    have d0 := (S.at (k := w.heap.size) (o := 0) (by omega) (by omega) (by omega)).1.trans HV.out.1
    have e0 := (S.at (k := w.heap.size) (o := 0) (by omega) (by omega) (by omega)).2.trans HV.out.2.1
    have d1 := (S.at (k := w.heap.size + 1) (o := 0) (by omega) (by omega) (by omega)).1.trans HV.out.2.2.1
    have e1 := (S.at (k := w.heap.size + 1) (o := 0) (by omega) (by omega) (by omega)).2.trans HV.out.2.2.2.1
    have d5 := S.c5
    have hz9 := S.sz
    have ST := Lib.hid S
    clear S
    go_wp2_with fail
    go_region
    all_goals
      go_wp2_with fail
      refine bodyPost_ret (v := .tuple #[.agg #[.slice aa a.length ac], .agg #[.slice ua n uc]]) ?_ rfl ⟨_, _, a, _, rfl, TwJ.outA ST.out HA.out ?_ ?_, TwJ.outB ST.out ?_ ?_, HSA.out, ST.out.sb, ?_⟩
      · simp [results, Tryd.results54, go_sem, d0, d1, d4, d5]
      all_goals first | rfl | (simp; done) | exact ((ST.out.mv.drew.setCell (by simp) _).setCell (by simp) _) | exact ((ST.out.mv.setCell (by simp) _).setCell (by simp) _) | exact (fun k hk => (Below.heap_setCell _ _ _ _ (by simp only; omega)).trans (Below.heap_setCell _ _ _ _ (by simp only; omega)))
end Go.Proofs.YtajcogpfmpehkaaDoor
