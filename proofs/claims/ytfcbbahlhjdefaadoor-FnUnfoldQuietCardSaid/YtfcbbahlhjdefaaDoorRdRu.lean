/- Drawn rules. -/
import Derived.Test.YtfcbbahlhjdefaaDoorRdT1
import Derived.Deep.DeepCutAuto
/- Drawn lists of tests. -/
namespace Go.Proofs.YtfcbbahlhjdefaaDoor
open Go.RowKit
theorem tsvalid_bad {ts : List Te} {t : Te} (h : t.ok = false) : tsvalid (ts ++ [t]) = false := by
  unfold tsvalid
  rw [List.all_append, List.all_cons, h, Bool.false_and, Bool.and_false, Bool.false_and]
def TLen (ts : List Te) : Prop := ts.length ≤ 7 ∧ (tsvalid ts = true → ts.length ≤ 3)
def DrawnTesX (R : Nat) (bs : List Int) (p : Nat) (w : World) (e : Ending) (w' : World) : Prop :=
  ∃ v ts q, e = .returned v ∧ OwnSl w.heap.size 108 4 Te.enc w' v ts ∧ TLen ts ∧ RdAt R bs w' q ∧ q ≤ p + 450 ∧ Mv R w.heap.size w w'
set_option maxHeartbeats 4000000 in
set_option maxRecDepth 100000 in
theorem drawTes1_any (R : Nat) (bs : List Int) (p : Nat) (w : World) (h : RdAt R bs w p) (hp : p ≤ 700000) :
    Calls Tryd.prog 64 #[.pointer (some ⟨R, 0, none⟩), .int .i64 1] w (DrawnTesX R bs p w) := by
  have hR := h.lt
  obtain ⟨i0, hi, hy0, hy1, hy2⟩ := info_parts infoTe
  go_enter Tryd.func64, Tryd.ntmps64
  go_wp2_with fail
  refine (pick_any R bs p _ _ (h.below ((Below.refl _ _).alloc (Nat.le_refl _) _)) (by omega) (by omega)).mono ?_
  rintro e w1 ⟨x1, rfl, a1, b1, -, hr1, hm1⟩
  have hx1 := b1 (by omega)
  have hz1 := hm1.size; simp at hz1
  have hq1 : Mv R w.heap.size w w1 := ((Mv.refl _ _ _).alloc (Nat.le_refl _) _).trans (hm1.mono (by simp))
  have HO1 := Lib.hid (show OwnTd w.heap.size w1 (.slice (some ⟨w.heap.size, 0, none⟩) 0 0) [] from OwnSl.mvK (OwnTd.lit (Nat.le_refl _)) hm1 hR)
  go_wp2_with fail
  go_loopw [5, 6] (fun v i wr => ∃ ys k q, i = .int .i64 k ∧ k ≤ 3 ∧ 0 ≤ k ∧ Hid (OwnTd w.heap.size wr v ys) ∧ Hid ((ys.length : Int) + k ≤ 3) ∧ Hid (TeOk ys) ∧ RdAt R bs wr q ∧ (q : Int) + 101 * k ≤ p + 304 ∧ Mv R w.heap.size w wr) (fun _ i _ => (intOf i).toNat)
  case atStart => exact ⟨[], x1, p + 1, rfl, by omega, a1, HO1, Lib.hid (by simp; omega), Lib.hid (fun k x h => by simp at h), hr1, by omega, hq1⟩
  case round =>
    obtain ⟨ys, k, q, rfl, hk6, hk0, HO, HL, HI, hr, hq, hmr⟩ := hrel
    have hzr := hmr.size
    clear HO1 hr1 hm1 hq1 b1
    by_cases hk : 0 < k
    · go_wp2_with fail
      refine (drawTe_any R bs q _ hr (by omega)).mono ?_
      rintro e w2 ⟨f, lo, hi', nt, q2, rfl, hok, hr2, hq2, hm2⟩
      have hz2 := hm2.size
      have HO2 := Lib.hid (OwnSl.mvK HO.out hm2 hR)
      have HL2 := Lib.hid (show ys.length ≤ 3 by have := HL.out; omega)
      have HI2 := Lib.hid (HI.out.snoc (x := ⟨f, lo, hi', nt⟩) hok)
      clear hok
      go_wp2_with (at_builtin; refine wpList_append_own _ rfl _ _ 32 rfl w.heap.size 108 i0 _ 4 32 Tryd.underlying32 hi hy0 hy1 hy2 rfl (by decide) _ _ _ rfl (World.ownsRow.alloc HO2.out _) ⟨w2.heap.size, 0, none⟩ 1 1 (Te.enc ⟨f, lo, hi', nt⟩) rfl rfl (cellsNew w2 (Te.enc ⟨f, lo, hi', nt⟩) _) ?c2 ?c3 ?c4 ?c5 ?_)
      case c2 => simp [Value.oneCell']
      case c3 => have := HL2.out; simp only [maxLen]; omega
      case c4 => have := HL2.out; omega
      case c5 => simp; omega
      intro v' w5 hown5 hgrow5 _
      have hB5 : Below w.heap.size w2 w5 := belGrown ((Below.refl _ _).alloc (by omega) _) (World.ownsRow.alloc HO2.out _) hgrow5 (by simp; omega)
      have hr5 : RdAt R bs w5 q2 := hr2.up (hB5.mono (by omega))
      have hm5 : Mv R w.heap.size w w5 := (hmr.trans (hm2.mono hzr)).trans (Mv.of_below hB5)
      have HO5 := Lib.hid (OwnSl.pushed rfl hown5)
      clear hown5 hgrow5
      go_wp2
      go_roundw
      case rel => exact ⟨_, k - 1, q2, by go_num, by omega, by omega, HO5, Lib.hid (by have := HL.out; simp; omega), HI2, hr5, by omega, hm5⟩
      case measure => simp [intOf]; omega
    · obtain rfl : k = 0 := by omega
      go_wp2_with fail
      refine (odd_any R bs _ _ _ hr (by omega) (by omega) (by omega)).mono ?_
      rintro e we ⟨bo, qo, rfl, hro, hqo, hmo⟩
      have hze := hmo.size
      have HOe := Lib.hid (OwnSl.mvK HO.out hmo hR)
      have hme := hmr.trans (hmo.mono hzr)
      have HLe := Lib.hid (show ys.length ≤ 3 by have := HL.out; omega)
      clear hmo
      cases bo
      · go_wp2
        go_ret
        exact ⟨_, ys, qo, rfl, HOe.out, ⟨by have := HLe.out; omega, fun _ => HLe.out⟩, hro, by omega, hme⟩
      · go_wp2_with fail
        refine (pick_any R bs _ _ _ hro (by omega) (by omega)).mono ?_
        rintro e wf ⟨x5, rfl, x50, x51, -, hrf, hmf⟩
        have hx5 := x51 (by omega)
        have hzf := hmf.size
        have HOf := Lib.hid (OwnSl.mvK HOe.out hmf hR)
        have hmef := hme.trans (hmf.mono (by omega))
        clear hmf x51
        rcases (by omega : x5 = 0 ∨ x5 = 1) with rfl | rfl
        · go_wp2_with fail
          refine (drawTe1_any R bs _ _ hrf (by omega)).mono ?_
          rintro e w2 ⟨f, lo, hi', nt, q2, rfl, hbad, hr2, hq2, hm2⟩
          have HBAD := Lib.hid hbad
          clear hbad
          have hz2 := hm2.size
          have HO2 := Lib.hid (OwnSl.mvK HOf.out hm2 hR)
          go_wp2_with (at_builtin; refine wpList_append_own _ rfl _ _ 32 rfl w.heap.size 108 i0 _ 4 32 Tryd.underlying32 hi hy0 hy1 hy2 rfl (by decide) _ _ _ rfl (World.ownsRow.alloc HO2.out _) ⟨w2.heap.size, 0, none⟩ 1 1 (Te.enc ⟨f, lo, hi', nt⟩) rfl rfl (cellsNew w2 (Te.enc ⟨f, lo, hi', nt⟩) _) ?c2 ?c3 ?c4 ?c5 ?_)
          case c2 => simp [Value.oneCell']
          case c3 => have := HLe.out; simp only [maxLen]; omega
          case c4 => have := HLe.out; omega
          case c5 => simp; omega
          intro v' w5 hown5 hgrow5 _
          have hB5 : Below w.heap.size w2 w5 := belGrown ((Below.refl _ _).alloc (by omega) _) (World.ownsRow.alloc HO2.out _) hgrow5 (by simp; omega)
          have hr5 : RdAt R bs w5 q2 := hr2.up (hB5.mono (by omega))
          have hm5 : Mv R w.heap.size w w5 := (hmef.trans (hm2.mono (by omega))).trans (Mv.of_below hB5)
          have HO5 := Lib.hid (OwnSl.pushed rfl hown5)
          clear hown5 hgrow5
          go_wp2
          go_ret
          exact ⟨_, _, q2, rfl, HO5.out, ⟨by have := HLe.out; simp; omega, fun hv => by rw [tsvalid_bad HBAD.out] at hv; cases hv⟩, hr5, by omega, hm5⟩
        · go_wp2_with (at_make; refine wpList_make_full _ rfl _ _ 32 rfl wf.heap.size 108 i0 _ 4 Tryd.underlying32 hi hy0 hy1 _ _ _ _ 7 rfl rfl rfl rfl ?b1 ?b2 ?b3 ?_)
          case b1 => rw [hy2]; decide
          case b2 => simp [maxLen]
          case b3 => exact Nat.le_refl _
          intro w5 hown5 hgrow5
          have hB5 : Below wf.heap.size wf w5 := (Below.refl _ _).grown hgrow5 (Nat.le_refl _) (fun z hz => by cases hz)
          have hm5 : Mv R w.heap.size w w5 := hmef.trans (Mv.of_below (hB5.mono (by omega)))
          have hr5 : RdAt R bs w5 _ := hrf.up (hB5.mono (by omega))
          have HO5 := Lib.hid (show OwnSl w.heap.size 108 4 Te.enc w5 (.slice (some ⟨wf.heap.size, 0, none⟩) 7 7) (List.replicate 7 ⟨0, 0, 0, false⟩) from OwnSl.mono (show OwnSl wf.heap.size 108 4 Te.enc w5 (.slice (some ⟨wf.heap.size, 0, none⟩) 7 7) (List.replicate 7 ⟨0, 0, 0, false⟩) from by
            unfold OwnSl
            rw [show (List.replicate 7 (⟨0, 0, 0, false⟩ : Te)).flatMap Te.enc = (madeCells #[.int .i64 0, .int .i64 0, .int .i64 0, .bool false] 28).toList from by first | kernel_rfl | (simp [madeCells, Array.range, List.flatMap]; rfl) | (simp [madeCells, List.replicate]; rfl)]
            exact hown5) (by omega))
          clear hown5 hgrow5
          go_wp2
          go_ret
          exact ⟨_, _, _, rfl, HO5.out, ⟨by simp, fun hv => by revert hv; decide⟩, hr5, by omega, hm5⟩
/-- A list of tests drawn with 0 or with 1. -/
theorem drawTesX_any (R : Nat) (bs : List Int) (p : Nat) (n : Int) (hn : n = 0 ∨ n = 1) (w : World) (h : RdAt R bs w p) (hp : p ≤ 700000) :
    Calls Tryd.prog 64 #[.pointer (some ⟨R, 0, none⟩), .int .i64 n] w (DrawnTesX R bs p w) := by
  rcases hn with rfl | rfl
  · refine (drawTes_any R bs p w h hp).mono ?_
    rintro e w' ⟨v, ts, q, rfl, h1, h2, -, h3, h4, h5⟩
    exact ⟨v, ts, q, rfl, h1, ⟨by omega, fun _ => h2⟩, h3, by omega, h5⟩
  · exact drawTes1_any R bs p w h hp
end Go.Proofs.YtfcbbahlhjdefaaDoor
namespace Go.Proofs.YtfcbbahlhjdefaaDoor
open Go.RowKit
def DrawnRu (R : Nat) (bs : List Int) (p : Nat) (w : World) (e : Ending) (w' : World) : Prop :=
  ∃ v ts act ch q, e = .returned (.agg #[v, .int .i64 act, .int .i64 ch]) ∧ OwnSl w.heap.size 108 4 Te.enc w' v ts ∧ TLen ts ∧ RdAt R bs w' q ∧ q ≤ p + 920 ∧ Mv R w.heap.size w w'
/-- The drawn rule in the making: the answer's block is the first new one, B the variable's. -/
structure RuS (R : Nat) (bs : List Int) (w : World) (B : Nat) (wx : World) (q : Nat) (tv : Value) (ts : List Te) (act ch : Int) : Prop where
  rd : RdAt R bs wx q
  hR : R < w.heap.size
  hB : w.heap.size < B
  lt : B < wx.heap.size
  c0 : wx.cell? ⟨B, 0, none⟩ = some tv
  c1 : wx.cell? ⟨B, 1, none⟩ = some (.int .i64 act)
  c2 : wx.cell? ⟨B, 2, none⟩ = some (.int .i64 ch)
  fz : ∀ j, wx.frozen? ⟨B, j, none⟩ = false
  a0 : (wx.cell? ⟨w.heap.size, 0, none⟩).isSome = true
  a1 : (wx.cell? ⟨w.heap.size, 1, none⟩).isSome = true
  a2 : (wx.cell? ⟨w.heap.size, 2, none⟩).isSome = true
  af : ∀ j, wx.frozen? ⟨w.heap.size, j, none⟩ = false
  o : OwnSl (w.heap.size + 1) 108 4 Te.enc wx tv ts
  ob : tv.ownBlock ≠ some B
  l : TLen ts
  mv : Mv R w.heap.size w wx
section
variable {R : Nat} {bs : List Int} {w : World} {B : Nat} {wx wy : World} {q q' : Nat} {tv : Value} {ts : List Te} {act ch : Int}
theorem RuS.mv' (S : RuS R bs w B wx q tv ts act ch) (hr : RdAt R bs wy q') (hm : Mv R wx.heap.size wx wy) : RuS R bs w B wy q' tv ts act ch := by
  have hR := S.hR; have hB := S.hB; have hl := S.lt
  exact ⟨hr, S.hR, S.hB, Nat.lt_of_lt_of_le hl hm.size, (mvC hm B hl (by omega) 0).trans S.c0, (mvC hm B hl (by omega) 1).trans S.c1, (mvC hm B hl (by omega) 2).trans S.c2, fun j => (mvF hm B hl (by omega) j).trans (S.fz j),
    by rw [mvC hm w.heap.size (by omega) (by omega) 0]; exact S.a0, by rw [mvC hm w.heap.size (by omega) (by omega) 1]; exact S.a1, by rw [mvC hm w.heap.size (by omega) (by omega) 2]; exact S.a2, fun j => (mvF hm w.heap.size (by omega) (by omega) j).trans (S.af j), OwnSl.mvK S.o hm (by omega), S.ob, S.l, S.mv.trans (hm.mono S.mv.size)⟩
theorem RuS.set (S : RuS R bs w B wx q tv ts act ch) (j : Nat) (u tv' : Value) (ts' : List Te) (act' ch' : Int) (h0 : (wx.setCell ⟨B, j, none⟩ u).cell? ⟨B, 0, none⟩ = some tv') (h1 : (wx.setCell ⟨B, j, none⟩ u).cell? ⟨B, 1, none⟩ = some (.int .i64 act')) (h2 : (wx.setCell ⟨B, j, none⟩ u).cell? ⟨B, 2, none⟩ = some (.int .i64 ch'))
    (ho : OwnSl (w.heap.size + 1) 108 4 Te.enc wx tv' ts') (hob : tv'.ownBlock ≠ some B) (hl : TLen ts') : RuS R bs w B (wx.setCell ⟨B, j, none⟩ u) q tv' ts' act' ch' := by
  have hR := S.hR; have hB := S.hB
  have hk : ∀ k, k ≠ B → (wx.setCell ⟨B, j, none⟩ u).heap[k]? = wx.heap[k]? := fun k hk => Below.heap_setCell _ _ _ _ hk
  have hb : Below B wx (wx.setCell ⟨B, j, none⟩ u) := (Below.refl _ _).setCell (p := ⟨B, j, none⟩) (Nat.le_refl _) _
  have hA := hk w.heap.size (by omega)
  exact ⟨S.rd.up (hb.mono (by omega)), S.hR, S.hB, by simpa using S.lt, h0, h1, h2, fun k => by rw [World.frozen?_setCell]; exact S.fz k, by rw [World.cell?_of_block (a := ⟨w.heap.size, 0, none⟩) hA]; exact S.a0, by rw [World.cell?_of_block (a := ⟨w.heap.size, 1, none⟩) hA]; exact S.a1, by rw [World.cell?_of_block (a := ⟨w.heap.size, 2, none⟩) hA]; exact S.a2, fun k => by rw [World.frozen?_setCell]; exact S.af k,
    OwnSl.keepB ho (fun z z1 _ _ => hk z (fun e => hob (by rw [z1, e]))), hob, hl, S.mv.trans (Mv.of_below (hb.mono (by omega)))⟩
theorem RuS.set1 (S : RuS R bs w B wx q tv ts act ch) (x : Int) : RuS R bs w B (wx.setCell ⟨B, 1, none⟩ (.int .i64 x)) q tv ts x ch :=
  S.set 1 _ tv ts x ch (by rw [World.cell?_setCell_other _ _ _ _ (by simp)]; exact S.c0) (World.cell?_setCell_same' _ _ _ (by rw [S.c1]; rfl)) (by rw [World.cell?_setCell_other _ _ _ _ (by simp)]; exact S.c2) S.o S.ob S.l
theorem RuS.set2 (S : RuS R bs w B wx q tv ts act ch) (x : Int) : RuS R bs w B (wx.setCell ⟨B, 2, none⟩ (.int .i64 x)) q tv ts act x :=
  S.set 2 _ tv ts act x (by rw [World.cell?_setCell_other _ _ _ _ (by simp)]; exact S.c0) (by rw [World.cell?_setCell_other _ _ _ _ (by simp)]; exact S.c1) (World.cell?_setCell_same' _ _ _ (by rw [S.c2]; rfl)) S.o S.ob S.l
theorem RuS.set0 (S : RuS R bs w B wx q tv ts act ch) {v : Value} {xs : List Te} (ho : OwnSl (w.heap.size + 1) 108 4 Te.enc wx v xs) (hob : v.ownBlock ≠ some B) (hl : TLen xs) : RuS R bs w B (wx.setCell ⟨B, 0, none⟩ v) q v xs act ch :=
  S.set 0 _ v xs act ch (World.cell?_setCell_same' _ _ _ (by rw [S.c0]; rfl)) (by rw [World.cell?_setCell_other _ _ _ _ (by simp)]; exact S.c1) (by rw [World.cell?_setCell_other _ _ _ _ (by simp)]; exact S.c2) ho hob hl
end
/-- A number out of a literal. -/
theorem lit_at {cs : List Value} (hc : ∀ c ∈ cs, ∃ x : Int, c = .int .i64 x) (w : World) (ty : TypeId) {k : Nat} (hk : k < cs.length) : ∃ x : Int, (w.alloc (.cells cs.toArray ty)).cell? ⟨w.heap.size, k, none⟩ = some (.int .i64 x) := by
  obtain ⟨x, hx⟩ := hc (cs[k]'hk) (List.getElem_mem hk)
  refine ⟨x, ?_⟩
  have := cellsNew w cs ty k _ (List.getElem?_eq_getElem hk)
  rw [Addr.add_lit, Nat.zero_add] at this
  rw [this, hx]
def RuSt (R : Nat) (bs : List Int) (w : World) (B : Nat) (q : Nat) (wx : World) : Prop := ∃ tv ts act ch q', RuS R bs w B wx q' tv ts act ch ∧ q' ≤ q
set_option maxHeartbeats 4000000 in
set_option maxRecDepth 100000 in
theorem drawRu_any (R : Nat) (bs : List Int) (p : Nat) (first chains n : Int) (h1 : 0 ≤ first ∧ first ≤ 10) (h2 : 0 ≤ chains ∧ chains ≤ 10) (hn : n = 0 ∨ n = 1) (w : World) (h : RdAt R bs w p) (hp : p ≤ 690000) :
    Calls Tryd.prog 55 #[.pointer (some ⟨R, 0, none⟩), .int .i64 first, .int .i64 chains, .int .i64 n] w (DrawnRu R bs p w) := by
  have hR := h.lt
  obtain ⟨W, hW⟩ : ∃ W, w.alloc (.cells #[.slice none 0 0, .int .i64 0, .int .i64 0] 34) = W := ⟨_, rfl⟩
  have hal : Below w.heap.size w W := by rw [← hW]; exact (Below.refl _ _).alloc (Nat.le_refl _) _
  have hzW : W.heap.size = w.heap.size + 1 := by rw [← hW]; simp
  have A0 : (W.cell? ⟨w.heap.size, 0, none⟩).isSome = true := by rw [← hW]; simp
  have A1 : (W.cell? ⟨w.heap.size, 1, none⟩).isSome = true := by rw [← hW]; simp
  have A2 : (W.cell? ⟨w.heap.size, 2, none⟩).isSome = true := by rw [← hW]; simp
  have AF : ∀ j, W.frozen? ⟨w.heap.size, j, none⟩ = false := fun j => by rw [← hW]; exact frz_new w _ _ j
  have hr0 := h.below hal
  go_enter Tryd.func55, Tryd.ntmps55
  go_wp2_with fail
  clear hW
  refine (drawTesX_any R bs p 0 (.inl rfl) W hr0 (by omega)).mono ?_
  rintro e w1 ⟨tv, ts, q1, rfl, ho1, hl1, hr1, hq1, hm1⟩
  have hz1 := hm1.size
  rw [hzW] at ho1
  obtain ⟨ta, tn, tc, htv⟩ : ∃ a n c, tv = Value.slice a n c := by
    rcases OwnSl.form ho1 with ⟨h, _⟩ | ⟨g, c, h, _⟩
    · exact ⟨_, _, _, h⟩
    · exact ⟨_, _, _, h⟩
  subst htv
  have HO1 := Lib.hid ho1
  have hM1 : Mv R w.heap.size w w1 := (Mv.of_below hal).trans (hm1.mono hal.size)
  obtain ⟨w2, hw2⟩ : ∃ w2, w1.alloc (.cells #[.int .i64 1, .int .i64 1, .int .i64 2, .int .i64 2, .int .i64 3, .int .i64 3, .int .i64 4, .int .i64 5] 3) = w2 := ⟨_, rfl⟩
  have hal2 : Below w1.heap.size w1 w2 := by rw [← hw2]; exact (Below.refl _ _).alloc (Nat.le_refl _) _
  have hz2 : w1.heap.size < w2.heap.size := by rw [← hw2]; simp
  have HL := Lib.hid (fun (k : Nat) (hk : k < 8) => (show ∃ x : Int, w2.cell? ⟨w1.heap.size, k, none⟩ = some (.int .i64 x) from by
    rw [← hw2]
    exact lit_at (cs := [.int .i64 1, .int .i64 1, .int .i64 2, .int .i64 2, .int .i64 3, .int .i64 3, .int .i64 4, .int .i64 5]) (fun c hc => by
      simp only [List.mem_cons, List.not_mem_nil, or_false] at hc
      rcases hc with rfl | rfl | rfl | rfl | rfl | rfl | rfl | rfl <;> exact ⟨_, rfl⟩) w1 _ hk))
  have hr2 := hr1.below hal2
  have A0' := mvC hm1 w.heap.size (by omega) (by omega) 0
  have A1' := mvC hm1 w.heap.size (by omega) (by omega) 1
  have A2' := mvC hm1 w.heap.size (by omega) (by omega) 2
  have AF' := fun j => mvF hm1 w.heap.size (by omega) (by omega) j
  have HA := Lib.hid (show ∀ wx, Mv R w1.heap.size w1 wx → (wx.cell? ⟨w.heap.size, 0, none⟩).isSome = true ∧ (wx.cell? ⟨w.heap.size, 1, none⟩).isSome = true ∧ (wx.cell? ⟨w.heap.size, 2, none⟩).isSome = true ∧ ∀ j, wx.frozen? ⟨w.heap.size, j, none⟩ = false from fun wx hm =>
    ⟨by rw [mvC hm w.heap.size (by omega) (by omega) 0, A0']; exact A0, by rw [mvC hm w.heap.size (by omega) (by omega) 1, A1']; exact A1, by rw [mvC hm w.heap.size (by omega) (by omega) 2, A2']; exact A2, fun j => by rw [mvF hm w.heap.size (by omega) (by omega) j, AF' j]; exact AF j⟩)
  clear ho1 hr0 hr1 A0 A1 A2 AF A0' A1' A2' AF' hm1 h
  go_wp2_with fail
  clear hw2
  refine (pick_any R bs _ _ _ hr2 (by omega) (by omega)).mono ?_
  rintro e w3 ⟨x3, rfl, x30, x31, -, hr3, hm3⟩
  have hx3 := x31 (by omega)
  obtain ⟨k3, rfl⟩ := Int.eq_ofNat_of_zero_le x30
  have hk3 : k3 < 8 := by omega
  obtain ⟨act, hact⟩ := HL.out k3 hk3
  replace hact := (mvC hm3 w1.heap.size hz2 (by omega) k3).trans hact
  have hz3 := hm3.size
  have hm13 : Mv R w1.heap.size w1 w3 := (Mv.of_below hal2).trans (hm3.mono (by omega))
  have hi8 : (k3 : Int) < 8 := by omega
  obtain ⟨w4, hw4⟩ : ∃ w4, w3.alloc (.cells #[.slice ta tn tc, .int .i64 act, .int .i64 0] 34) = w4 := ⟨_, rfl⟩
  have hal4 : Below w3.heap.size w3 w4 := by rw [← hw4]; exact (Below.refl _ _).alloc (Nat.le_refl _) _
  have hm14 : Mv R w1.heap.size w1 w4 := hm13.trans (Mv.of_below (hal4.mono (by omega)))
  have HS := Lib.hid (show RuS R bs w w3.heap.size w4 _ (.slice ta tn tc) ts act 0 from
    ⟨hr3.below hal4, hR, by omega, by rw [← hw4]; simp, by rw [← hw4]; simp, by rw [← hw4]; simp, by rw [← hw4]; simp, fun j => by rw [← hw4]; exact frz_new w3 _ _ j, (HA.out w4 hm14).1, (HA.out w4 hm14).2.1, (HA.out w4 hm14).2.2.1, (HA.out w4 hm14).2.2.2, OwnSl.mvK HO1.out hm14 (by omega), fun e => by have := (World.ownsRow.lt HO1.out _ e).2; omega, hl1, hM1.trans (hm14.mono (by omega))⟩)
  have hz4 : w3.heap.size < w4.heap.size := by rw [← hw4]; simp
  clear hr2 hr3 hm3 hm13 hm14 hal4 hal2 HL HA HO1 hM1 x31
  obtain ⟨l0, c0, c1, c2, cf⟩ : w3.heap.size < w4.heap.size ∧ w4.cell? ⟨w3.heap.size, 0, none⟩ = some (.slice ta tn tc) ∧ w4.cell? ⟨w3.heap.size, 1, none⟩ = some (.int .i64 act) ∧ w4.cell? ⟨w3.heap.size, 2, none⟩ = some (.int .i64 0) ∧ ∀ j, w4.frozen? ⟨w3.heap.size, j, none⟩ = false := ⟨HS.out.lt, HS.out.c0, HS.out.c1, HS.out.c2, HS.out.fz⟩
  go_upto_if 20 with (fail)
  clear hw4 hact c0 c1 c2 cf
  go_cut [] (fun wx => RuSt R bs w w3.heap.size (p + 453) wx)
  case first =>
    have S := HS.out.set2 0
    obtain ⟨w4', hw4'⟩ : ∃ x, w4.setCell ⟨w3.heap.size, 2, none⟩ (.int .i64 0) = x := ⟨_, rfl⟩
    rw [hw4'] at S ⊢
    clear HS hw4'
    have c1 := S.c1
    have cf1 := S.fz 1
    have cf2 := S.fz 2
    have c2 := S.c2
    by_cases hact : act = 3
    · subst hact
      by_cases hfc : chains ≤ first
      · have S2 := S.set1 2
        go_wp2_with fail
        go_meet
        exact ⟨_, _, _, _, _, S2, by omega⟩
      · clear c1 c2 cf1 cf2
        go_wp2_with fail
        refine (pick_any R bs _ _ _ S.rd (by omega) (by omega)).mono ?_
        rintro e w5 ⟨x5, rfl, x50, x51, -, hr5, hm5⟩
        have hx5 := x51 (by omega)
        replace S := S.mv' hr5 hm5
        have cf2 := S.fz 2
        have c2 := S.c2
        have S2 := S.set2 (first + x5)
        clear hr5 hm5 x51
        go_wp2_with fail
        go_meet
        exact ⟨_, _, _, _, _, S2, by omega⟩
    · have hab : (act == 3) = false := by simpa using hact
      go_wp2_with fail
      go_meet
      exact ⟨_, _, _, _, _, S, by omega⟩
  case rest =>
    clear HS
    obtain ⟨tv, ts, act, ch, q, S, hq⟩ := hcut
    go_upto_if 35 with (refine (odd_any R bs _ _ _ S.rd (by omega) (by omega) (by omega)).mono ?_; rintro e we ⟨bo, qo, rfl, hro, hqo, hmo⟩; replace S := S.mv' hro hmo; clear hro hmo)
    go_cut [] (fun wx => RuSt R bs w w3.heap.size (p + 910) wx)
    case first =>
      cases bo
      · go_wp2_with fail
        go_meet
        exact ⟨_, _, _, _, _, S, by omega⟩
      · go_wp2_with fail
        refine (pick_any R bs _ _ _ S.rd (by omega) (by omega)).mono ?_
        rintro e w5 ⟨x5, rfl, x50, x51, -, hr5, hm5⟩
        have hx5 := x51 (by omega)
        replace S := S.mv' hr5 hm5
        have hz5 := hm5.size
        have hl5 := S.lt
        clear hr5 hm5 x51
        rcases (by omega : x5 = 0 ∨ x5 = 1 ∨ x5 = 2) with rfl | rfl | rfl
        · obtain ⟨w6, hw6⟩ : ∃ w6, w5.alloc (.cells #[.int .i64 0, .int .i64 6] 3) = w6 := ⟨_, rfl⟩
          have hal6 : Below w5.heap.size w5 w6 := by rw [← hw6]; exact (Below.refl _ _).alloc (Nat.le_refl _) _
          have hz6 : w5.heap.size < w6.heap.size := by rw [← hw6]; simp
          have HL := Lib.hid (fun (k : Nat) (hk : k < 2) => (show ∃ x : Int, w6.cell? ⟨w5.heap.size, k, none⟩ = some (.int .i64 x) from by
            rw [← hw6]
            exact lit_at (cs := [.int .i64 0, .int .i64 6]) (fun c hc => by
              simp only [List.mem_cons, List.not_mem_nil, or_false] at hc
              rcases hc with rfl | rfl <;> exact ⟨_, rfl⟩) w5 _ hk))
          replace S := S.mv' (S.rd.below hal6) (Mv.of_below hal6)
          have hR5 := S.hR
          have hB5 := S.hB
          clear hal6
          go_wp2_with fail
          clear hw6
          refine (pick_any R bs _ _ _ S.rd (by omega) (by omega)).mono ?_
          rintro e w7 ⟨x7, rfl, x70, x71, -, hr7, hm7⟩
          have hx7 := x71 (by omega)
          replace S := S.mv' hr7 hm7
          obtain ⟨k7, rfl⟩ := Int.eq_ofNat_of_zero_le x70
          have hk7 : k7 < 2 := by omega
          obtain ⟨y, hy⟩ := HL.out k7 hk7
          replace hy := (mvC hm7 w5.heap.size hz6 (by omega) k7).trans hy
          have hz7 := hm7.size
          have hi2 : (k7 : Int) < 2 := by omega
          clear hr7 hm7 HL x71
          have cf1 := S.fz 1
          have c1 := S.c1
          have S2 := S.set1 y
          go_wp2_with fail
          go_meet
          exact ⟨_, _, _, _, _, S2, by omega⟩
        · obtain ⟨w6, hw6⟩ : ∃ w6, w5.alloc (.cells #[.int .i64 (-1), .int .i64 5, .int .i64 1] 3) = w6 := ⟨_, rfl⟩
          have hal6 : Below w5.heap.size w5 w6 := by rw [← hw6]; exact (Below.refl _ _).alloc (Nat.le_refl _) _
          have hz6 : w5.heap.size < w6.heap.size := by rw [← hw6]; simp
          have HL := Lib.hid (fun (k : Nat) (hk : k < 3) => (show ∃ x : Int, w6.cell? ⟨w5.heap.size, k, none⟩ = some (.int .i64 x) from by
            rw [← hw6]
            exact lit_at (cs := [.int .i64 (-1), .int .i64 5, .int .i64 1]) (fun c hc => by
              simp only [List.mem_cons, List.not_mem_nil, or_false] at hc
              rcases hc with rfl | rfl | rfl <;> exact ⟨_, rfl⟩) w5 _ hk))
          replace S := S.mv' (S.rd.below hal6) (Mv.of_below hal6)
          have hR5 := S.hR
          have hB5 := S.hB
          clear hal6
          go_wp2_with fail
          clear hw6
          refine (pick_any R bs _ _ _ S.rd (by omega) (by omega)).mono ?_
          rintro e w7 ⟨x7, rfl, x70, x71, -, hr7, hm7⟩
          have hx7 := x71 (by omega)
          replace S := S.mv' hr7 hm7
          obtain ⟨k7, rfl⟩ := Int.eq_ofNat_of_zero_le x70
          have hk7 : k7 < 3 := by omega
          obtain ⟨y, hy⟩ := HL.out k7 hk7
          replace hy := (mvC hm7 w5.heap.size hz6 (by omega) k7).trans hy
          have hz7 := hm7.size
          have hi2 : (k7 : Int) < 3 := by omega
          clear hr7 hm7 HL x71
          have cf2 := S.fz 2
          have c2 := S.c2
          have S2 := S.set2 y
          go_wp2_with fail
          go_meet
          exact ⟨_, _, _, _, _, S2, by omega⟩
        · go_wp2_with fail
          refine (drawTesX_any R bs _ 1 (.inr rfl) _ S.rd (by omega)).mono ?_
          rintro e w7 ⟨tv7, ts7, q7, rfl, ho7, hl7, hr7, hq7, hm7⟩
          have hB5 := S.hB
          have hlt5 := S.lt
          have hob : tv7.ownBlock ≠ some w3.heap.size := fun e => by have := (World.ownsRow.lt ho7 _ e).1; omega
          replace S := S.mv' hr7 hm7
          obtain ⟨ta, tn, tc, htv⟩ : ∃ a n c, tv7 = Value.slice a n c := by
            rcases OwnSl.form ho7 with ⟨h, _⟩ | ⟨g, c, h, _⟩
            · exact ⟨_, _, _, h⟩
            · exact ⟨_, _, _, h⟩
          subst htv
          have cf0 := S.fz 0
          have c0 := S.c0
          have S2 := S.set0 (OwnSl.mono ho7 (by omega)) hob hl7
          clear ho7 hr7 hm7 hob
          go_wp2_with fail
          go_meet
          exact ⟨_, _, _, _, _, S2, by omega⟩
    case rest =>
      clear S
      obtain ⟨tv, ts, act, ch, q, S, hq⟩ := hcut
      obtain ⟨ta, tn, tc, htv⟩ : ∃ a n c, tv = Value.slice a n c := by
        rcases OwnSl.form S.o with ⟨h, _⟩ | ⟨g, c, h, _⟩
        · exact ⟨_, _, _, h⟩
        · exact ⟨_, _, _, h⟩
      subst htv
      have c0 := S.c0
      have c1 := S.c1
      have c2 := S.c2
      have a0 := S.a0
      have a1 := S.a1
      have a2 := S.a2
      have af0 := S.af 0
      have af1 := S.af 1
      have af2 := S.af 2
      have HSS := Lib.hid S
      have hR9 := S.hR
      have hB9 := S.hB
      have hA9 := S.lt
      have hb9 : Below w.heap.size wc ((((wc.setCell ⟨w.heap.size, 0, none⟩ (.slice ta tn tc)).setCell ⟨w.heap.size, 1, none⟩ (.int .i64 act)).setCell ⟨w.heap.size, 2, none⟩ (.int .i64 ch))) := (((Below.refl _ _).setCell (p := ⟨w.heap.size, 0, none⟩) (Nat.le_refl _) _).setCell (p := ⟨w.heap.size, 1, none⟩) (Nat.le_refl _) _).setCell (p := ⟨w.heap.size, 2, none⟩) (Nat.le_refl _) _
      obtain ⟨b0, ha0⟩ : ∃ b0, wc.cell? ⟨w.heap.size, 0, none⟩ = some b0 := Option.isSome_iff_exists.1 a0
      obtain ⟨b1, ha1⟩ : ∃ b1, wc.cell? ⟨w.heap.size, 1, none⟩ = some b1 := Option.isSome_iff_exists.1 a1
      obtain ⟨b2, ha2⟩ : ∃ b2, wc.cell? ⟨w.heap.size, 2, none⟩ = some b2 := Option.isSome_iff_exists.1 a2
      clear S a0 a1 a2
      go_wp2_with fail
      refine bodyPost_ret (v := .agg #[.slice ta tn tc, .int .i64 act, .int .i64 ch]) (by simp [results, Tryd.results55, go_sem, ha0, ha1, ha2]) rfl ⟨_, ts, act, ch, q, rfl, ?_, HSS.out.l, HSS.out.rd.up (hb9.mono (by omega)), by omega, HSS.out.mv.trans (Mv.of_below (hb9.mono (by omega)))⟩
      exact OwnSl.mono (OwnSl.keepB HSS.out.o (fun z z1 z2 z3 => by
        rw [Below.heap_setCell _ _ _ _ (by simp only; omega), Below.heap_setCell _ _ _ _ (by simp only; omega), Below.heap_setCell _ _ _ _ (by simp only; omega)])) (by omega)
end Go.Proofs.YtfcbbahlhjdefaaDoor
