/- A drawn box that may be odd: three, four or five sets. -/
import Derived.Test.YtajcogpfmpehkaaDoorDr
import Derived.Test.YtajcogpfmpehkaaDoorPaS
import Derived.Test.YtajcogpfmpehkaaDoorLvS
import Derived.Test.YtajcogpfmpehkaaDoorBsA
namespace Go.Proofs.YtajcogpfmpehkaaDoor
open Go.RowKit
def DrawnB16 (R : Nat) (bs : List Int) (p : Nat) (w : World) (e : Ending) (w' : World) : Prop :=
  ∃ v bx q, e = .returned (.agg #[v]) ∧ Rws w.heap.size w' v bx ∧ bx.length ≤ 5 ∧ (∀ (k : Nat) xs, bx[k]? = some xs → xs.length ≤ 40) ∧ RdAt R bs w' q ∧ q ≤ p + 3100 ∧ Mv R w.heap.size w w'
/-- The box in the making; its own block may be written. -/
structure BxB (R : Nat) (bs : List Int) (w : World) (b g vc : Nat) (wx : World) (q : Nat) (bx : Bx) : Prop extends BxAll R bs w b g vc wx q bx where
  fb : wx.frozen? ⟨b, 0, none⟩ = false
  B2 : BxP (some b) (w.heap.size + 1) wx (.slice (some ⟨g, 0, none⟩) 4 vc) bx
theorem BxB.mv' {R : Nat} {bs : List Int} {w : World} {b g vc : Nat} {wx wy : World} {q q' : Nat} {bx : Bx} (S : BxB R bs w b g vc wx q bx) (hr : RdAt R bs wy q') (hm : Mv R wx.heap.size wx wy) : BxB R bs w b g vc wy q' bx :=
  have h1 := S.hR; have h2 := S.hg; have h3 := S.hb
  ⟨BxAll.mv' S.toBxAll hr hm, (mvF hm b S.lt (by omega) 0).trans S.fb, S.B2.mv hm (by omega)⟩
theorem BxB.set {R : Nat} {bs : List Int} {w : World} {b g vc : Nat} {wx : World} {q : Nat} {bx : Bx} (S : BxB R bs w b g vc wx q bx) {k : Nat} (hk : k < 4) {s : Value} {xs : List Sp} {base : Nat} (hs : OwnSp base wx s xs) (hb : b < base) (hl : xs.length ≤ 40) : BxB R bs w b g vc (wx.setCell ⟨g, k, none⟩ s) q (bx.set k xs) :=
  have h3 := S.hb
  ⟨BxAll.set S.toBxAll hk hs hb hl, by rw [World.frozen?_setCell]; exact S.fb, S.B2.set (by rw [S.len]; exact hk) (((OwnSp.sps hs).sub ((Sb.into (fun z e => by cases e; omega)).trans (Sb.into (fun z e => by cases e; omega)))).mono (by have := S.hg; omega))⟩
theorem SlFr.dropF {α : Type} {lo sz : Nat} {enc : α → List Value} {w : World} {a : Option Addr} {n cap : Nat} {xs : List α} (h : SlFr lo sz enc w (.slice a n cap) xs) {k : Nat} (hk : k ≤ n) : SlFr lo sz enc w (.slice (dropA a cap k sz) (n - k) (cap - k)) (xs.drop k) := by
  obtain ⟨a', cap', he, h1, h2, hx⟩ := h
  obtain ⟨rfl, rfl, rfl⟩ := Value.slice.inj he
  refine ⟨_, _, by rw [List.length_drop], by rw [List.length_drop]; omega, by omega, fun j x hj => ?_⟩
  rw [List.getElem?_drop] at hj
  have hlt := (List.getElem?_eq_some_iff.1 hj).1
  obtain ⟨b, o, ha, hl, hb, hc⟩ := hx (k + j) x hj
  refine ⟨b, o + k * sz, ?_, hl, hb, ?_⟩
  · unfold dropA
    rw [if_neg (by omega), ha]
    simp [Addr.add_lit]
  · rwa [show o + k * sz + j * sz = o + (k + j) * sz by rw [Nat.add_mul]; omega]
theorem Rws.dropF {lo : Nat} {w : World} {a : Option Addr} {n cap : Nat} {b : Bx} (h : Rws lo w (.slice a n cap) b) {k : Nat} (hk : k ≤ n) : Rws lo w (.slice (dropA a cap k 1) (n - k) (cap - k)) (b.drop k) := by
  obtain ⟨vs, h1, h2⟩ := h
  refine ⟨vs.drop k, SlFr.dropF h1 hk, by rw [List.length_drop, List.length_drop, h2.1], fun j x y hx hy => ?_⟩
  rw [List.getElem?_drop] at hx hy
  exact h2.2 _ x y hx hy
/-- An empty set is put behind the sets. -/
theorem BxB.more {R : Nat} {bs : List Int} {w : World} {b g vc : Nat} {wx : World} {q : Nat} {bx : Bx} (S : BxB R bs w b g vc wx q bx) (ty : TypeId) :
    ∃ a c w', (Builtin.append_ #[30, 30] ty #[.slice (some ⟨g, 0, none⟩) 4 vc, .slice (some ⟨wx.heap.size + 1, 0, none⟩) 1 1]).run Tryd.prog ((wx.alloc (.cells #[] 70)).alloc (.cells #[.slice (some ⟨wx.heap.size, 0, none⟩) 0 0] 71)) = .ok (.slice a 5 c) w' ∧
      w'.cell? ⟨b, 0, none⟩ = some (.slice (some ⟨g, 0, none⟩) 4 vc) ∧ w'.frozen? ⟨b, 0, none⟩ = false ∧ w'.cell? ⟨w.heap.size, 0, none⟩ = some (.slice none 0 0) ∧ w'.frozen? ⟨w.heap.size, 0, none⟩ = false ∧
      Rws w.heap.size ((w'.setCell ⟨b, 0, none⟩ (.slice a 5 c)).setCell ⟨w.heap.size, 0, none⟩ (.slice a 5 c)) (.slice a 5 c) (bx ++ [[]]) ∧ Below (w.heap.size + 1) wx w' := by
  have c6 := S.c; have f6 := S.fb; have l6 := S.lt; have a6 := S.a; have r6 := S.f; have h2 := S.hR; have h3 := S.hg; have h4 := S.hb
  obtain ⟨j0, hj, hj0, hj1, hj2⟩ := info_parts infoSl
  obtain ⟨W7, hW7⟩ : ∃ W7, wx.alloc (.cells #[] 70) = W7 := ⟨_, rfl⟩
  have q7 : W7.heap.size = wx.heap.size + 1 := by rw [← hW7]; simp
  obtain ⟨W8, hW8⟩ : ∃ W8, W7.alloc (.cells #[.slice (some ⟨wx.heap.size, 0, none⟩) 0 0] 71) = W8 := ⟨_, rfl⟩
  have hal : Below wx.heap.size wx W8 := by rw [← hW8, ← hW7]; (repeat' (first | with_reducible exact Below.refl _ _ | with_reducible assumption | with_reducible refine Below.setCell ?_ ?_ _ | with_reducible refine Below.alloc ?_ ?_ _ | with_reducible refine Below.drew ?_ | with_reducible refine belDrewN ?_ _ | with_reducible refine Below.trans ?_ (Below.mono (by assumption) ?_) | omega | (simp; omega) | (simp; done)))
  have q8 : W8.heap.size = wx.heap.size + 1 + 1 := by rw [← hW8, ← hW7]; simp
  obtain ⟨vs, g1, g2, g3⟩ := S.B2
  have hvs : vs.length = 4 := g3.1.trans S.len
  have hlit : SlAt 1 enc1 W8 (.slice (some ⟨wx.heap.size + 1, 0, none⟩) 1 1) [.slice (some ⟨wx.heap.size, 0, none⟩) 0 0] := by
    have := litBx_at W7 (.slice (some ⟨wx.heap.size, 0, none⟩) 0 0) 71
    rwa [hW8, q7] at this
  obtain ⟨v', w', hrun, hown, hgr, hat⟩ := own_append_all (sz := 1) (enc := enc1) (by omega) (fun _ => rfl) (P := Tryd.prog) (w := W8) 30 ty 71 j0 _ 24 Tryd.underlying30 hj hj0 hj1 hj2 rfl (zs := [.slice (some ⟨wx.heap.size, 0, none⟩) 0 0]) (by simp [Value.oneCell']) (OwnSl.kept g1 hal) hlit (by simp; omega) (by simp only [maxLen, List.length_singleton]; omega) (by omega)
  obtain ⟨a5, c5, rfl, -, -⟩ := (OwnSl.fr (sz := 1) (enc := enc1) (fun _ => rfl) hown)
  have hvl : vs.length + [Value.slice (some ⟨wx.heap.size, 0, none⟩) 0 0].length = 5 := by rw [hvs]; rfl
  rw [List.length_append, hvl] at hown hrun hat
  have hgs := grown_self hgr
  have hbk : ∀ k, k < wx.heap.size → k ≠ g → w'.heap[k]? = wx.heap[k]? := fun k k1 k2 => (hgs.2 k (by omega) (fun e => k2 (by simpa [Value.ownBlock] using e))).trans (hal.block k k1)
  have hsz : wx.heap.size ≤ w'.heap.size := by have := hgs.1; omega
  have hB : Below (w.heap.size + 1) wx w' := (hal.mono (by omega)).grown hgr (by omega) (fun z hz => by simp [Value.ownBlock] at hz; omega)
  have hne1 : b ≠ g := by omega
  have hfin : ∀ k, k ≠ b → k ≠ w.heap.size → ((w'.setCell ⟨b, 0, none⟩ (.slice a5 5 c5)).setCell ⟨w.heap.size, 0, none⟩ (.slice a5 5 c5)).heap[k]? = w'.heap[k]? := fun k k1 k2 =>
    (Below.heap_setCell _ _ _ _ (by simpa using k2)).trans (Below.heap_setCell _ _ _ _ (by simpa using k1))
  refine ⟨a5, c5, w', by rw [hW7, hW8]; exact hrun, ?_, ?_, ?_, ?_, ?_, hB⟩
  · exact (World.cell?_of_block (a := ⟨b, 0, none⟩) (hbk b (by omega) hne1)).trans c6
  · exact (World.frozen?_of_block (a := ⟨b, 0, none⟩) (hbk b (by omega) hne1)).trans f6
  · exact (World.cell?_of_block (a := ⟨w.heap.size, 0, none⟩) (hbk w.heap.size (by omega) (by omega))).trans a6
  · exact (World.frozen?_of_block (a := ⟨w.heap.size, 0, none⟩) (hbk w.heap.size (by omega) (by omega))).trans r6
  · refine ⟨vs ++ [.slice (some ⟨wx.heap.size, 0, none⟩) 0 0], SlFr.mono (OwnSl.fr (sz := 1) (enc := enc1) (fun _ => rfl) (OwnSl.keepB hown (fun z z1 z2 z3 => hfin z ?_ ?_))) (by omega), All2.snoc (g3.mono (fun _ _ h => (h.sub (w' := _) ⟨?_, ?_⟩).mono (by omega))) ⟨_, _, rfl, by simp, by simp, fun k x h => by simp at h⟩⟩
    · rcases hat z z1 with e | e
      · simp [Value.ownBlock] at e; omega
      · omega
    · omega
    · simp only [hole_size, World.size_setCell]; exact hsz
    · intro p c p1 hp
      obtain ⟨k1, hp⟩ := hole_cell.1 hp
      obtain ⟨k2, hp⟩ := hole_cell.1 hp
      have hl := World.block_lt_of_cell? _ _ hp
      exact (World.cell?_of_block ((hfin p.block (fun e => k2 (by rw [e])) (by omega)).trans (hbk p.block hl (fun e => k1 (by rw [e]; rfl))))).trans hp
set_option maxHeartbeats 4000000 in
set_option maxRecDepth 100000 in
theorem drawBx16_any (R : Nat) (bs : List Int) (p : Nat) (w : World) (h : RdAt R bs w p) (hp : p ≤ 700000) :
    Calls Tryd.prog 73 #[.pointer (some ⟨R, 0, none⟩), .int .i64 16] w (DrawnB16 R bs p w) := by
  have hR := h.lt
  obtain ⟨j0, hj, hj0, hj1, hj2⟩ := info_parts infoSl
  obtain ⟨W, hW⟩ : ∃ W, (w.alloc (.cells #[.slice none 0 0] 32)) = W := ⟨_, rfl⟩
  have hal : Below w.heap.size w W := by rw [← hW]; (repeat' (first | with_reducible exact Below.refl _ _ | with_reducible assumption | with_reducible refine Below.setCell ?_ ?_ _ | with_reducible refine Below.alloc ?_ ?_ _ | with_reducible refine Below.drew ?_ | with_reducible refine belDrewN ?_ _ | with_reducible refine Below.trans ?_ (Below.mono (by assumption) ?_) | omega | (simp; omega) | (simp; done)))
  have qs : W.heap.size = w.heap.size + 1 := by rw [← hW]; simp
  have g2 : W.cell? ⟨w.heap.size, 0, none⟩ = some (.slice none 0 0) := by rw [← hW]; simp
  have m2 : W.frozen? ⟨w.heap.size, 0, none⟩ = false := by rw [← hW]; exact frz_new w _ _ 0
  have hr0 := h.below hal
  go_enter Tryd.func73, Tryd.ntmps73
  go_wp2_with fail
  refine (drawTes_any R bs p _ hr0 hp).mono ?_
  rintro e w1 ⟨v1, ts, q1, rfl, ho1, hl1, hok1, hr1, hq1, hm1⟩
  have hz1 := hm1.size
  go_wp2_with fail
  refine (testsBox_any ho1.tes hok1 hl1).mono ?_
  rintro e w2 ⟨v2, bx, rfl, hB2, hb4, hlx, hb2⟩
  have hz2 := hb2.size
  obtain ⟨g, vc, rfl, hg1, hg2, -, -, -⟩ := hB2.ptr (by omega)
  rw [hb4] at hB2
  have hr2 := hr1.below hb2
  have hm2 : Mv R W.heap.size W w2 := hm1.trans (Mv.of_below (hb2.mono hz1))
  clear ho1 hok1 hr1 hm1 hb2
  go_wp2_with fail
  have hal3 : Below w2.heap.size w2 (w2.alloc (.cells #[.slice (some ⟨g, 0, none⟩) 4 vc] 32)) := (Below.refl _ _).alloc (Nat.le_refl _) _
  have S0 : BxAll R bs w w2.heap.size g vc (w2.alloc (.cells #[.slice (some ⟨g, 0, none⟩) 4 vc] 32)) q1 bx := by
    have hR2 : R ≠ w.heap.size := by omega
    refine ⟨hr2.below hal3, by simp, (hB2.mono (by omega)).below hal3, hb4, fun k xs hx => Nat.le_trans (hlx k xs hx) (by decide), ?_, ?_, ?_, hR, by omega, hg2, by simp⟩
    · exact ((hal3.cell (p := ⟨w.heap.size, 0, none⟩) (by simp only; omega)).trans (mvC hm2 w.heap.size (by omega) (by omega) 0)).trans g2
    · exact ((hal3.frozen (p := ⟨w.heap.size, 0, none⟩) (by simp only; omega)).trans (mvF hm2 w.heap.size (by omega) (by omega) 0)).trans m2
    · exact ((Mv.of_below hal).trans (hm2.mono (by omega))).trans (Mv.of_below (hal3.mono (by omega)))
  have S : BxB R bs w w2.heap.size g vc (w2.alloc (.cells #[.slice (some ⟨g, 0, none⟩) 4 vc] 32)) q1 bx := ⟨S0, frz_new w2 _ _ 0, (hB2.mono (by omega)).keep hal3.size (fun k _ k2 _ => hal3.block k k2) (fun z hz => by cases hz; exact .inr (.inr (Nat.le_refl _)))⟩
  clear S0
  clear hB2 hr2 hm2 hlx hal3 g2 m2 hr0
  refine (pick_any R bs _ _ _ S.rd (by omega) (by omega)).mono ?_
  rintro e w4 ⟨x4, rfl, x40, x41, -, hr4, hm4⟩
  replace S := S.mv' hr4 hm4
  clear hr4 hm4 x41
  have ST := Lib.hid S
  clear S
  go_upto_if 12 with (fail)
  go_cut [] (fun wx => ∃ q bx, BxB R bs w w2.heap.size g vc wx q bx ∧ q ≤ p + 3000)
  case first =>
    have S := ST.out
    clear ST
    by_cases hx : x4 = 0
    · subst hx
      have h2 := S.hR; have h3 := S.hg; have h4 := S.hb
      go_wp2_with fail
      refine (pick_any R bs _ _ _ S.rd (by omega) (by omega)).mono ?_
      rintro e w5 ⟨x5, rfl, x50, x51, -, hr5, hm5⟩
      have hx5 := x51 (by omega)
      replace S := S.mv' hr5 hm5
      obtain ⟨kk, rfl⟩ := Int.eq_ofNat_of_zero_le x50
      have hk4 : kk < 4 := by omega
      clear hr5 hm5 x51
      obtain ⟨hgl, hfg⟩ : g < w5.heap.size ∧ ∀ o, w5.frozen? ⟨g, o, none⟩ = false := by
        obtain ⟨q', c', he, -, h2, -, -, h5⟩ := S.B.ptr (by rw [S.len]; decide)
        obtain ⟨he, -, -⟩ := Value.slice.inj he
        cases he
        exact ⟨h2, h5⟩
      obtain ⟨s0, xs0, d0, -, -⟩ := S.B.at (show kk < bx.length by rw [S.len]; exact hk4)
      have c0 := S.c
      have hlb := S.lt
      have hneb : w2.heap.size ≠ R := by omega
      have hneg : g ≠ R := by omega
      go_wp2_with fail
      refine wp_region_last (CM R bs _ 260 w5) (fun a b => Mv R a.heap.size a b) (bof [BIs (.pointer (some ⟨w2.heap.size, 0, none⟩)), BIs (.slice (some ⟨g, 0, none⟩) 4 vc), BIs (.int .i64 (kk : Int)), BIs (.pointer (some ⟨R, 0, none⟩)), BIs (.int .i64 (kk : Int)), (BIs (.int .i64 (top kk))), (FSet w5.heap.size 40), BIs (.pointer (some ⟨g, kk, none⟩))]) (fun _ _ _ => True) (fun w9 => ∃ wy q a c xs, BxB R bs w w2.heap.size g vc wy q bx ∧ OwnSp w5.heap.size wy (.slice a xs.length c) xs ∧ xs.length ≤ 40 ∧ q ≤ p + 3000 ∧ w9 = wy.setCell ⟨g, kk, none⟩ (.slice a xs.length c)) 8 (by kernel_rfl) rfl (fun u => by simp only [frU, Act.put, List.setIfInBounds_toArray, List.set_cons_succ, List.set_cons_zero, Nat.zero_add, Nat.reduceAdd]; exact rfl) (by kernel_rfl) (by kernel_rfl) (fun iz wz wy vz hbz hz => bof_mst [BIs (.pointer (some ⟨w2.heap.size, 0, none⟩)), BIs (.slice (some ⟨g, 0, none⟩) 4 vc), BIs (.int .i64 (kk : Int)), BIs (.pointer (some ⟨R, 0, none⟩)), BIs (.int .i64 (kk : Int)), (BIs (.int .i64 (top kk))), (FSet w5.heap.size 40), BIs (.pointer (some ⟨g, kk, none⟩))] ⟨mst_is _, mst_is _, mst_is _, mst_is _, mst_is _, (mst_is _), (mst_set (by omega)), mst_is _, trivial⟩ iz wz wy vz hbz hz) (CM.start S.rd) ?_ ?_; (exact ⟨stSm rfl (fun m u w3 hm hC hd Q K hK => by (go_step; exact hK _ _ rfl hC.same (Mv.refl _ _ _) rfl)), stSm rfl (fun m u w3 hm hC hd Q K hK => by (have hu := bis (w := w3) (hd 0 rfl); rw [hu] at hK ⊢; clear hu; obtain ⟨q3, hr3, hq3, hM⟩ := id hC; have z0 := (mvC hM w2.heap.size hlb hneb 0).trans c0; go_step; exact hK _ _ rfl hC.same (Mv.refl _ _ _) rfl)), stSm rfl (fun m u w3 hm hC hd Q K hK => by (go_step; exact hK _ _ rfl hC.same (Mv.refl _ _ _) rfl)), stSm rfl (fun m u w3 hm hC hd Q K hK => by (go_step; exact hK _ _ rfl hC.same (Mv.refl _ _ _) rfl)), stSm rfl (fun m u w3 hm hC hd Q K hK => by (go_step; exact hK _ _ rfl hC.same (Mv.refl _ _ _) rfl)), stSm rfl (fun m u w3 hm hC hd Q K hK => by (have hu := bis (w := w3) (hd 4 rfl); rw [hu] at hK ⊢; clear hu; obtain ⟨q3, hr3, hq3, hM⟩ := id hC; go_step; refine (specFTop_any kk hk4 _).mono ?_; rintro e _ ⟨rfl, rfl⟩; exact hK _ _ rfl hC.same (Mv.refl _ _ _) rfl)), stSm rfl (fun m u w3 hm hC hd Q K hK => by (have hu := bis (w := w3) (hd 3 rfl); rw [hu] at hK ⊢; clear hu; have hu := bis (w := w3) (hd 5 rfl); rw [hu] at hK ⊢; clear hu; obtain ⟨q3, hr3, hq3, hM⟩ := id hC; go_step; refine (drawSet_any R bs _ kk hk4 _ hr3 (by omega)).mono ?_; rintro e w4 ⟨v4, xs4, q4, rfl, ho4, hl4, hi4, hr4, hq4, hm4⟩; exact hK _ _ rfl (hC.mv hr4 (by omega) hm4) hm4 (FSet.mk ho4 hM.size hl4))), stSm rfl (fun m u w3 hm hC hd Q K hK => by (have hu := bis (w := w3) (hd 1 rfl); rw [hu] at hK ⊢; clear hu; have hu := bis (w := w3) (hd 2 rfl); rw [hu] at hK ⊢; clear hu; go_step; exact hK _ _ rfl hC.same (Mv.refl _ _ _) rfl)), ⟨rfl, fun m u w3 hm hC hF Q K hK => by (dsimp only at hK ⊢; have hu := bis (w := w3) (hF 7 (by decide)); rw [hu] at hK ⊢; clear hu; obtain ⟨a6, c6, xs6, hu, h6, hl6⟩ := hF 6 (by decide); rw [hu] at hK ⊢; clear hu; obtain ⟨q3, hr3, hq3, hM⟩ := id hC; have z0 := (mvC hM g hgl hneg kk).trans d0; have z1 := (mvF hM g hgl hneg kk).trans (hfg kk);  go_step; exact hK _ _ rfl ⟨w3, q3, a6, c6, xs6, S.mv' hr3 hM, h6, hl6, by omega, rfl⟩ (fun _ _ => trivial))⟩⟩); intro u w9 hD _
      obtain ⟨wy, q9, a9, c9, xs9, S, h9, hl9, hq9, rfl⟩ := hD
      replace S := S.set hk4 h9 hlb hl9
      go_wp2_with fail
      go_meet
      exact ⟨_, _, S, hq9⟩
    · have hx' : (x4 == 0) = false := by simpa using hx
      go_wp2_with fail
      go_meet
      exact ⟨_, _, S, by omega⟩
  case rest =>
    clear ST
    obtain ⟨q9, bx9, S, hq9⟩ := hcut
    have ST := Lib.hid S
    go_wp2_with fail
    refine (odd_any R bs _ _ _ S.rd (by omega) (by omega) (by omega)).mono ?_
    rintro e w5 ⟨x5, q5, rfl, hr5, hq5, hm5⟩
    have S5 := ST.out.mv' hr5 hm5
    clear S ST hr5 hm5
    cases x5
    · have c0 := S5.c; have a0 := S5.a; have f0 := S5.f; have l0 := S5.lt; have h2 := S5.hR; have h3 := S5.hg; have h4 := S5.hb
      go_wp2_with fail
      exact bodyPost_ret (v := .agg #[.slice (some ⟨g, 0, none⟩) 4 vc]) (by simp [results, Tryd.results73, go_sem, a0]) rfl ⟨_, bx9, q5, rfl, ((S5.B.keep (by simp) (fun k k1 k2 _ => Below.heap_setCell _ _ _ _ (by simp only; omega)) (fun z hz => .inl hz)).mono (by omega)).rws0, by rw [S5.len]; omega, S5.sets, S5.rd.up (by (repeat' (first | with_reducible exact Below.refl _ _ | with_reducible assumption | with_reducible refine Below.setCell ?_ ?_ _ | with_reducible refine Below.alloc ?_ ?_ _ | with_reducible refine Below.drew ?_ | with_reducible refine belDrewN ?_ _ | with_reducible refine Below.trans ?_ (Below.mono (by assumption) ?_) | omega | (simp; omega) | (simp; done)))), by omega, S5.mv.setCell (by simp) _⟩
    · go_wp2_with fail
      refine (pick_any R bs _ _ _ S5.rd (by omega) (by omega)).mono ?_
      rintro e w6 ⟨x6, rfl, x60, x61, -, hr6, hm6⟩
      have hx6 := x61 (by omega)
      have S6 := S5.mv' hr6 hm6
      clear S5 hr6 hm6 x61
      rcases (by omega : x6 = 0 ∨ x6 = 1 ∨ x6 = 2) with rfl | rfl | rfl
      · have c6 := S6.c; have f6 := S6.fb; have l6 := S6.lt; have a6 := S6.a; have r6 := S6.f; have h2 := S6.hR; have h3 := S6.hg; have h4 := S6.hb
        go_wp2_with (refine wpList_slice_from rfl rfl (sz := 1) (k := 1) Tryd.underlying30 hj hj1 rfl rfl (by omega) ?_)
        refine bodyPost_ret (v := .agg #[.slice (dropA (some ⟨g, 0, none⟩) vc 1 1) 3 (vc - 1)]) ?_ rfl ⟨_, bx9.drop 1, q5 + 1, rfl, ?_, by rw [List.length_drop, S6.len]; omega, fun k xs hx => S6.sets (1 + k) xs (by rwa [List.getElem?_drop] at hx), S6.rd.up (by (repeat' (first | with_reducible exact Below.refl _ _ | with_reducible assumption | with_reducible refine Below.setCell ?_ ?_ _ | with_reducible refine Below.alloc ?_ ?_ _ | with_reducible refine Below.drew ?_ | with_reducible refine belDrewN ?_ _ | with_reducible refine Below.trans ?_ (Below.mono (by assumption) ?_) | omega | (simp; omega) | (simp; done)))), by omega, (S6.mv.setCell (by simp only; omega) _).setCell (by simp) _⟩
        · simp [results, Tryd.results73, go_sem, a6]
        · exact (Rws.dropF (S6.B2.keep (by simp) (fun k k1 k2 k3 => (Below.heap_setCell _ _ _ _ (by simp only; omega)).trans (Below.heap_setCell _ _ _ _ (fun e => k3 (by rw [e])))) (fun z hz => .inl hz)).rws0 (by omega)).mono (by omega)
      · have c6 := S6.c; have f6 := S6.fb; have l6 := S6.lt; have a6 := S6.a; have r6 := S6.f; have h2 := S6.hR; have h3 := S6.hg; have h4 := S6.hb
        obtain ⟨hgl, hfg⟩ : g < w6.heap.size ∧ ∀ o, w6.frozen? ⟨g, o, none⟩ = false := by
          obtain ⟨q', c', he, -, h2, -, -, h5⟩ := S6.B.ptr (by rw [S6.len]; decide)
          obtain ⟨he, -, -⟩ := Value.slice.inj he
          cases he
          exact ⟨h2, h5⟩
        have hf3 := hfg 3
        have l7 : w.heap.size < w6.heap.size := by omega
        have n7 : g ≠ w.heap.size := by omega
        have n8 : g ≠ w2.heap.size := by omega
        obtain ⟨s0, xs0, d0, -, -⟩ := S6.B.at (show 3 < bx9.length by rw [S6.len]; omega)
        have hal : Below w6.heap.size w6 (w6.alloc (.cells #[.int .i64 0, .int .i64 8] 70)) := (Below.refl _ _).alloc (Nat.le_refl _) _
        have S8 := (S6.mv' (S6.rd.below hal) (Mv.of_below hal)).set (k := 3) (by omega) (litSp1 (base := w6.heap.size) (w := w6) (lo := 0) (hi := 8) (Nat.le_refl _)) l6 (by simp)
        go_wp2_with fail
        rw [World.setCell_alloc_past _ _ _ _ hgl] at S8
        rw [← World.setCell_alloc_past _ _ _ _ (by simpa using l7)]
        refine bodyPost_ret (v := .agg #[.slice (some ⟨g, 0, none⟩) 4 vc]) ?_ rfl ⟨_, _, q5 + 1, rfl, ((S8.B.keep (by simp) (fun k k1 k2 _ => Below.heap_setCell _ _ _ _ (by simp only; omega)) (fun z hz => .inl hz)).mono (by omega)).rws0, by rw [S8.len]; omega, S8.sets, S8.rd.up (by (repeat' (first | with_reducible exact Below.refl _ _ | with_reducible assumption | with_reducible refine Below.setCell ?_ ?_ _ | with_reducible refine Below.alloc ?_ ?_ _ | with_reducible refine Below.drew ?_ | with_reducible refine belDrewN ?_ _ | with_reducible refine Below.trans ?_ (Below.mono (by assumption) ?_) | omega | (simp; omega) | (simp; done)))), by omega, S8.mv.setCell (by simp) _⟩
        have a8 := S8.a
        simp [results, Tryd.results73, go_sem, a8]
      · have h2 := S6.hR; have h3 := S6.hg; have h4 := S6.hb; have l6 := S6.lt; have c6 := S6.c
        obtain ⟨a8, c8, w8, hrun, hc8, hf8, hd8, he8, hR8, hb8⟩ := BxB.more S6 30
        have hz8 := hb8.size
        have hB9 : Below w.heap.size w6 ((w8.setCell ⟨w2.heap.size, 0, none⟩ (.slice a8 5 c8)).setCell ⟨w.heap.size, 0, none⟩ (.slice a8 5 c8)) := ((hb8.mono (by omega)).setCell (by simp only; omega) _).setCell (by simp) _
        go_wp2_with (at_builtin; refine wpList_append_run rfl _ _ 30 rfl rfl rfl hrun ?_)
        refine bodyPost_ret (v := .agg #[.slice a8 5 c8]) ?_ rfl ⟨_, bx9 ++ [[]], q5 + 1, rfl, hR8, by rw [List.length_append, S6.len]; decide, fun k xs hx => ?_, S6.rd.up (hB9.mono (by omega)), by omega, S6.mv.trans (Mv.of_below hB9)⟩
        · simp [results, Tryd.results73, go_sem, hd8]
        · rcases List.mem_append.1 (List.mem_of_getElem? hx) with h | h
          · obtain ⟨i, hi⟩ := List.getElem?_of_mem h
            exact S6.sets i xs hi
          · simp at h; subst h; simp
end Go.Proofs.YtajcogpfmpehkaaDoor
