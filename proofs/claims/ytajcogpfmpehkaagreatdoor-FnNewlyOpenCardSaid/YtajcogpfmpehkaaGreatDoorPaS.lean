/- Parts of all packets: both functions. -/
import Derived.Test.YtajcogpfmpehkaaGreatDoorFdI
import Derived.Test.YtajcogpfmpehkaaGreatDoorFnX
namespace Go.Proofs.YtajcogpfmpehkaaGreatDoor
open Go.RowKit
theorem fpart_no {fs : List Ft} {r c : Bool} (h : fparts fs r = none) : fpart fs r c = [] := by unfold fpart; rw [h]
theorem fpart_yes {fs R : List Ft} {r c : Bool} (h : fparts fs r = some R) : fpart fs r c = psel R c := by unfold fpart; rw [h]
/-- Rules in a list of the call's own under way; their boxes lie in no block of X. -/
def FtX (X : Nat → Prop) (lo : Nat) (w : World) (v : Value) (fs : List Ft) : Prop :=
  ∃ rs, OwnSl lo 81 2 RF.enc w v rs ∧ All2 (fun (r : RF) (f : Ft) => RwV (fun k => some k = v.ownBlock ∨ X k) w r.s f.box ∧ r.acc = f.acc) rs fs
theorem FtX.fts {X : Nat → Prop} {lo : Nat} {w : World} {v : Value} {fs : List Ft} (h : FtX X lo w v fs) : Fts 0 w v fs := by
  obtain ⟨rs, h1, h2⟩ := h
  exact ⟨rs, SlFr.mono (OwnSl.fr (sz := 2) (enc := RF.enc) (fun _ => rfl) h1) (Nat.zero_le _), h2.mono (fun _ _ g => ⟨g.1.rws, g.2⟩)⟩
theorem FtX.below {X : Nat → Prop} {lo : Nat} {w w' : World} {v : Value} {fs : List Ft} (h : FtX X lo w v fs) (hb : Below w.heap.size w w') : FtX X lo w' v fs := by
  obtain ⟨rs, h1, h2⟩ := h
  exact ⟨rs, OwnSl.kept h1 hb, h2.mono (fun _ _ g => ⟨g.1.below hb, g.2⟩)⟩
theorem FtX.lt {X : Nat → Prop} {lo : Nat} {w : World} {v : Value} {fs : List Ft} (h : FtX X lo w v fs) : ∀ z, v.ownBlock = some z → lo ≤ z ∧ z < w.heap.size := by
  obtain ⟨rs, h1, _⟩ := h
  exact fun z hz => World.ownsRow.lt h1 z hz
theorem FtX.form {X : Nat → Prop} {lo : Nat} {w : World} {v : Value} {fs : List Ft} (h : FtX X lo w v fs) : ∃ a c, v = .slice a fs.length c := by
  obtain ⟨a, c, h, -, -⟩ := h.fts.form
  exact ⟨a, c, h⟩
theorem ft_append {X : Nat → Prop} {lo : Nat} {w : World} {v vx : Value} {fs gs : List Ft} {ws : List RF} (ty : TypeId) (ho : FtX X lo w v fs) (hs : SlAt 2 RF.enc w vx ws) (hg : All2 (fun (r : RF) (f : Ft) => RwV (fun k => some k = v.ownBlock ∨ X k) w r.s f.box ∧ r.acc = f.acc) ws gs) (hb : fs.length + gs.length ≤ 1000000) (hlo : lo ≤ w.heap.size) :
    ∃ v' w', (Builtin.append_ #[23, 23] ty #[v, vx]).run Tryz.prog w = .ok v' w' ∧ FtX X lo w' v' (fs ++ gs) ∧ w.grownBy w' v.ownBlock ∧ ∀ z, v'.ownBlock = some z → v.ownBlock = some z ∨ z = w.heap.size := by
  obtain ⟨i0, hi, hy0, hy1, hy2⟩ := info_parts infoFt
  obtain ⟨rs, g1, g2⟩ := ho
  have e1 := g2.1
  have e2 := hg.1
  have hone : ∀ u ∈ ws.flatMap RF.enc, u.oneCell' = true := fun u hu => by
    obtain ⟨r, hr, hu2⟩ := List.mem_flatMap.1 hu
    obtain ⟨k, hk⟩ := List.getElem?_of_mem hr
    obtain ⟨f, hf⟩ : ∃ f, gs[k]? = some f := ⟨_, List.getElem?_eq_getElem (by rw [← e2]; exact (List.getElem?_eq_some_iff.1 hk).1)⟩
    obtain ⟨a, c, he, -, -⟩ := (hg.2 k r f hk hf).1.rws.form
    simp only [RF.enc, List.mem_cons, List.not_mem_nil, or_false] at hu2
    rcases hu2 with rfl | rfl
    · rw [he]; rfl
    · rfl
  obtain ⟨v', w', hrun, hown, hgr, hat⟩ := own_append_all (sz := 2) (enc := RF.enc) (by omega) (fun _ => rfl) (P := Tryz.prog) 23 ty 81 i0 _ 32 Tryz.underlying23 hi hy0 hy1 hy2 rfl hone g1 hs (by omega) (by simp only [maxLen]; omega) hlo
  refine ⟨v', w', hrun, ⟨rs ++ ws, hown, ?_⟩, hgr, hat⟩
  have key : ∀ k, k < w.heap.size → ¬ (some k = v.ownBlock ∨ X k) → w'.heap[k]? = w.heap[k]? ∧ ¬ (some k = v'.ownBlock ∨ X k) := fun k k1 k2 => ⟨hgr.block k k1 (fun e => k2 (.inl e)), fun e => by
    rcases e with e | e
    · rcases hat k e.symm with h | h
      · exact k2 (.inl h.symm)
      · omega
    · exact k2 (.inr e)⟩
  have f1 := g2.mono (S := fun (r : RF) (f : Ft) => RwV (fun k => some k = v'.ownBlock ∨ X k) w' r.s f.box ∧ r.acc = f.acc) (fun _ _ g => ⟨g.1.keep hgr.size key, g.2⟩)
  have f2 := hg.mono (S := fun (r : RF) (f : Ft) => RwV (fun k => some k = v'.ownBlock ∨ X k) w' r.s f.box ∧ r.acc = f.acc) (fun _ _ g => ⟨g.1.keep hgr.size key, g.2⟩)
  refine ⟨by rw [List.length_append, List.length_append, f1.1, f2.1], fun k x y hx hy => ?_⟩
  by_cases hk : k < rs.length
  · rw [List.getElem?_append_left hk] at hx
    rw [List.getElem?_append_left (by rw [← f1.1]; exact hk)] at hy
    exact f1.2 k x y hx hy
  · rw [List.getElem?_append_right (by omega)] at hx
    rw [List.getElem?_append_right (by rw [← f1.1]; omega), ← f1.1] at hy
    exact f2.2 _ x y hx hy
theorem litRF_at (w : World) (s : Value) (c : Bool) (ty : TypeId) : SlAt 2 RF.enc (w.alloc (.cells #[s, .bool c] ty)) (.slice (some ⟨w.heap.size, 0, none⟩) 1 1) [⟨s, c⟩] := by
  refine ⟨_, 1, rfl, by simp, by simp [maxLen], fun k x hk => ?_⟩
  match k, hk with
  | 0, hk =>
    cases hk
    refine ⟨w.heap.size, 0, rfl, by simp, fun j u hj => ?_⟩
    have := cellsNew w (RF.enc ⟨s, c⟩) ty j u hj
    rwa [Addr.add_lit] at this
  | k + 1, hk => simp at hk
/-- The box at place k, or that of all packets behind them. -/
def boxAt (fs : List Ft) (k : Nat) : Bx := match fs[k]? with
  | some f => f.box
  | none => ball
theorem liveAt_box (fs : List Ft) (k : Nat) : liveAt fs k = blessB (boxAt fs k) (fboxes (fs.take k)) := by
  unfold liveAt boxAt
  cases fs[k]? <;> rfl
theorem boxAt_valid {fs : List Ft} (hv : fvalid fs = true) (k : Nat) : bvalid (boxAt fs k) = true := by
  unfold boxAt
  cases h : fs[k]? with
  | none => exact ball_valid
  | some f => exact fvalid_at hv h
theorem addp_succ {out : List Ft} {live : List Bx} {a : Bool} {j : Nat} {b : Bx} (h : live[j]? = some b) : addp out (live.take (j + 1)) a = addp out (live.take j) a ++ [⟨b, a⟩] := by
  unfold addp
  rw [List.take_add_one, h, Option.toList_some, List.map_append, List.append_assoc]
  rfl
set_option maxHeartbeats 4000000 in
set_option maxRecDepth 100000 in
theorem l17Live_any {lo : Nat} (fs : List Ft) (r : Bool) (v : Value) (w : World) (hs : Fts lo w v fs) (hv : fvalid fs = true) :
    Calls Tryz.prog 53 #[v, .bool r] w fun e w' => ∃ za zn zc, e = .returned (.tuple #[.slice za zn zc, .bool (parts fs r).isSome]) ∧ (∀ R, parts fs r = some R → Fts 0 w' (.slice za zn zc) R) ∧ Below w.heap.size w w' := by
  obtain ⟨a, cap, rfl, hlc, hcm⟩ := hs.form
  unfold maxLen at hcm
  have h60 := fvalid_60 hv
  generalize hn : fs.length = n at *
  have HN := Lib.hid hn
  have HS := Lib.hid hs
  have HV := Lib.hid hv
  clear hs hv hn
  go_enter Tryz.func53, Tryz.ntmps53
  have HO0 := Lib.hid (show FtX (fun _ => False) w.heap.size (w.alloc (.cells #[] 81)) (.slice (some ⟨w.heap.size, 0, none⟩) 0 0) [] from ⟨[], litOwn 81 2 RF.enc (Nat.le_refl _), All2.nil⟩)
  have hal0 : Below w.heap.size w (w.alloc (.cells #[] 81)) := (Below.refl _ _).alloc (Nat.le_refl _) _
  go_wp2_with fail
  go_loopw [6, 7, 8, 9, 10, 11, 12] (fun o i _ _ _ _ _ wr => ∃ (k : Nat) (L : List Ft), k ≤ n + 1 ∧ i = .int .i64 k ∧ Hid (FtX (fun _ => False) w.heap.size wr o L) ∧ Hid (partl fs r k = some L) ∧ Hid (L.length ≤ 400) ∧ Below w.heap.size w wr) (fun _ i _ _ _ _ _ _ => n + 1 - (intOf i).toNat)
  case atStart => exact ⟨0, [], by omega, rfl, HO0, Lib.hid rfl, Lib.hid (by simp), hal0⟩
  case round =>
    obtain ⟨k, L, hk, rfl, HO, HP, HL, hbr⟩ := hrel
    clear HO0 hal0
    have hzr := hbr.size
    obtain ⟨oa, oc, rfl⟩ := HO.out.form
    by_cases hle : k ≤ n
    · have i1 : (k : Int) ≤ (n : Int) := by omega
      have i2 : (0 : Int) ≤ (k : Int) := by omega
      have HX0 := Lib.hid (fun q (hq : some q = (Value.slice oa L.length oc).ownBlock) => HO.out.lt q hq.symm)
      have HBV := Lib.hid (boxAt_valid HV.out k)
      obtain ⟨O, hO⟩ : ∃ O, liveAt fs k = O := ⟨_, rfl⟩
      have HOO := Lib.hid ((liveAt_box fs k).symm.trans hO)
      have HLA := Lib.hid hO
      have HT := Lib.hid (Fts.takeS HS.out hle)
      clear hO
      go_wp2_with fail
      refine (boxAll_any wr).mono ?_
      rintro e w1 ⟨v1, rfl, ho1, hb1⟩
      have hz1 := hb1.size
      obtain ⟨b1, c1, rfl, -, -⟩ := ho1.rws.form
      have HB1 := Lib.hid (show RwV (fun q => some q = (Value.slice oa L.length oc).ownBlock) w1 (.slice b1 ball.length c1) ball from RwV.high ho1.rws (fun q hq => (HX0.out q hq).2))
      clear ho1
      obtain ⟨W1, hW1⟩ : ∃ W1, w1.alloc (.cells #[.slice b1 ball.length c1] 68) = W1 := ⟨_, rfl⟩
      have hal1 : Below w1.heap.size w1 W1 := by rw [← hW1]; exact (Below.refl _ _).alloc (Nat.le_refl _) _
      have c0 : W1.cell? ⟨w1.heap.size, 0, none⟩ = some (.slice b1 ball.length c1) := by rw [← hW1]; simp
      have f0 : W1.frozen? ⟨w1.heap.size, 0, none⟩ = false := by rw [← hW1]; exact frz_new w1 _ _ 0
      have hqz : w1.heap.size < W1.heap.size := by rw [← hW1]; simp
      have hbW1 := hb1.trans (hal1.mono hz1)
      go_upto_if 25 with (fail)
      go_cut [9] (fun c wx => ∃ (ba : Option Addr) (bn bc : Nat), c = .bool (accAt fs r k) ∧ wx.cell? ⟨w1.heap.size, 0, none⟩ = some (.slice ba bn bc) ∧ w1.heap.size < wx.heap.size ∧ Hid (RwV (fun q => some q = (Value.slice oa L.length oc).ownBlock) wx (.slice ba bn bc) (boxAt fs k)) ∧ Below wr.heap.size wr wx)
      case first =>
        by_cases hlt : k < n
        · obtain ⟨f, hx⟩ : ∃ f, fs[k]? = some f := ⟨_, List.getElem?_eq_getElem (by rw [HN.out]; exact hlt)⟩
          obtain ⟨b, o, sv, rfl, hbl, d0, d1, hsv⟩ := HS.out.at hx
          obtain ⟨sa, sc, rfl, -, -⟩ := hsv.form
          have j1 : (k : Int) < (n : Int) := by omega
          have hwW := hbr.trans (hbW1.mono hzr)
          have e0 := (hwW.cell (p := ⟨b, o + k * 2, none⟩) hbl).trans d0
          have e1 := (hwW.cell (p := ⟨b, o + k * 2 + 1, none⟩) hbl).trans d1
          have hbx : boxAt fs k = f.box := by unfold boxAt; rw [hx]
          have hac : accAt fs r k = f.acc := accAt_lt hx
          have HBX := Lib.hid hbx
          have HAC := Lib.hid hac
          have HB2 := Lib.hid (RwV.old (P := fun q => some q = (Value.slice oa L.length oc).ownBlock ∨ q = w1.heap.size) hsv hwW (fun q hq => hq.elim (fun e => (HX0.out q e).1) (fun e => by have := hb1.size; omega)))
          have hbS : Below wr.heap.size wr (W1.setCell ⟨w1.heap.size, 0, none⟩ (.slice sa f.box.length sc)) := hbW1.setCell hz1 _
          have hcS : (W1.setCell ⟨w1.heap.size, 0, none⟩ (.slice sa f.box.length sc)).cell? ⟨w1.heap.size, 0, none⟩ = some (.slice sa f.box.length sc) := World.cell?_setCell_same' _ _ _ (by rw [c0]; rfl)
          clear hx hsv hbx hac d0 d1
          go_wp2_with fail
          go_meet
          refine ⟨_, _, _, by rw [HAC.out], hcS, by simpa using hqz, Lib.hid ?_, hbS⟩
          rw [HBX.out]
          exact RwV.keep HB2.out (by simp) (fun q _ q2 => ⟨Below.heap_setCell _ _ _ _ (fun e => q2 (.inr e)), fun e => q2 (.inl e)⟩)
        · have hkn : k = n := by omega
          have j1 : ¬ ((k : Int) < (n : Int)) := by omega
          have hbx : boxAt fs k = ball := by unfold boxAt; rw [List.getElem?_eq_none_iff.2 (by rw [HN.out]; omega)]
          have hac : accAt fs r k = r := by rw [hkn, ← HN.out]; exact accAt_end fs r
          have HBX := Lib.hid hbx
          have HAC := Lib.hid hac
          clear hbx hac hkn
          go_wp2_with fail
          go_meet
          exact ⟨_, _, _, by rw [HAC.out], c0, hqz, Lib.hid (by rw [HBX.out]; exact HB1.out.below hal1), hbW1⟩
      case rest =>
        obtain ⟨ba, bn, bc, rfl, c9, hq9, HB9, hb9⟩ := hcut
        clear c0 f0 HB1 hbW1 hal1 hqz
        have hz9 := hb9.size
        have hw9 := hbr.trans (hb9.mono hzr)
        have HFT := Lib.hid (HT.out.below hw9)
        have HX9 := Lib.hid (fun q (hq : some q = (Value.slice oa L.length oc).ownBlock) => Nat.lt_of_lt_of_le (HX0.out q hq).2 hz9)
        have i3 : (k : Int) ≤ (cap : Int) := by omega
        go_wp2_with fail
        (refine wp_region_bel (W := wc) [BIs (.agg #[.slice ba bn bc]), BIs (.slice a n cap), BIs (.int .i64 (k : Int)), BIs (.slice a k cap), (fun w v => Bxs 0 w v (fboxes (fs.take k))), (fun w v => ∃ za zn zc, v = .tuple #[.slice za zn zc, .bool O.isSome] ∧ ∀ ys, O = some ys → BxsV (fun q => some q = (Value.slice oa L.length oc).ownBlock) w (.slice za zn zc) ys), (fun w v => ∃ za zn zc, v = .tuple #[.slice za zn zc, .bool O.isSome] ∧ ∀ ys, O = some ys → BxsV (fun q => some q = (Value.slice oa L.length oc).ownBlock) w (.slice za zn zc) ys), (fun w v => ∃ za zn zc, v = .slice za zn zc ∧ ∀ ys, O = some ys → BxsV (fun q => some q = (Value.slice oa L.length oc).ownBlock) w (.slice za zn zc) ys), BIs (.bool O.isSome), (fun w v => ∃ za zn zc, v = .slice za zn zc ∧ ∀ ys, O = some ys → BxsV (fun q => some q = (Value.slice oa L.length oc).ownBlock) w (.slice za zn zc) ys), BIs (.bool O.isSome)] (by kernel_rfl) (fun u => by simp only [frU, Act.put, List.setIfInBounds_toArray, List.set_cons_succ, List.set_cons_zero, Nat.zero_add, Nat.reduceAdd]; exact rfl) (by kernel_rfl) ⟨bst_is _, bst_is _, bst_is _, bst_is _, (fun _ _ _ hb h => h.below hb), (fun _ _ _ hb ⟨za, zn, zc, h1, h2⟩ => ⟨za, zn, zc, h1, fun ys hy => (h2 ys hy).below hb⟩), (fun _ _ _ hb ⟨za, zn, zc, h1, h2⟩ => ⟨za, zn, zc, h1, fun ys hy => (h2 ys hy).below hb⟩), (fun _ _ _ hb ⟨za, zn, zc, h1, h2⟩ => ⟨za, zn, zc, h1, fun ys hy => (h2 ys hy).below hb⟩), bst_is _, (fun _ _ _ hb ⟨za, zn, zc, h1, h2⟩ => ⟨za, zn, zc, h1, fun ys hy => (h2 ys hy).below hb⟩), bst_is _, trivial⟩ ?_ ?_; exact ⟨stB rfl (fun u w3 hC hd Q K hK => by (have z0 := (hC.cell (p := ⟨w1.heap.size, 0, none⟩) hq9).trans c9; go_step; exact hK _ _ rfl (Below.refl _ _) rfl)), stB rfl (fun u w3 hC hd Q K hK => by (go_step; exact hK _ _ rfl (Below.refl _ _) rfl)), stB rfl (fun u w3 hC hd Q K hK => by (go_step; exact hK _ _ rfl (Below.refl _ _) rfl)), stB rfl (fun u w3 hC hd Q K hK => by (have hu := bis (w := w3) (hd 1 rfl); rw [hu] at hK ⊢; clear hu; have hu := bis (w := w3) (hd 2 rfl); rw [hu] at hK ⊢; clear hu; go_step; exact hK _ _ rfl (Below.refl _ _) rfl)), stB rfl (fun u w3 hC hd Q K hK => by (have hu := bis (w := w3) (hd 3 rfl); rw [hu] at hK ⊢; clear hu; go_step; refine (specFB_v (fs.take k) _ _ (HFT.out.below hC) (fvalid_take HV.out k)).mono ?_; rintro e w4 ⟨z4, rfl, ho4, hb4⟩; exact hK _ _ rfl hb4 ho4)), stB rfl (fun u w3 hC hd Q K hK => by (have hu := bis (w := w3) (hd 0 rfl); rw [hu] at hK ⊢; clear hu; have ho1 := hd 4 rfl; generalize u 4 = v1 at *; go_step; refine (specLessX_r HOO.out (fun q hq => Nat.lt_of_lt_of_le (HX9.out q hq) hC.size) (HB9.out.below hC) ho1 HBV.out (fboxes_valid (fvalid_take HV.out k))).mono ?_; rintro e w4 ⟨za4, zn4, zc4, rfl, ho4, hb4⟩; exact hK _ _ rfl hb4 ⟨_, _, _, rfl, ho4⟩)), stB rfl (fun u w3 hC hd Q K hK => by (obtain ⟨za, zn, zc, hu, hz⟩ := hd 5 rfl; rw [hu] at hK ⊢; clear hu; go_step; exact hK _ _ rfl (Below.refl _ _) ⟨_, _, _, rfl, hz⟩)), stB rfl (fun u w3 hC hd Q K hK => by (obtain ⟨za, zn, zc, hu, hz⟩ := hd 6 rfl; rw [hu] at hK ⊢; clear hu; go_step; exact hK _ _ rfl (Below.refl _ _) ⟨_, _, _, rfl, hz⟩)), stB rfl (fun u w3 hC hd Q K hK => by (obtain ⟨za, zn, zc, hu, hz⟩ := hd 6 rfl; rw [hu] at hK ⊢; clear hu; go_step; exact hK _ _ rfl (Below.refl _ _) rfl)), stB rfl (fun u w3 hC hd Q K hK => by (obtain ⟨za, zn, zc, hu, hz⟩ := hd 7 rfl; rw [hu] at hK ⊢; clear hu; go_step; exact hK _ _ rfl (Below.refl _ _) ⟨_, _, _, rfl, hz⟩)), stB rfl (fun u w3 hC hd Q K hK => by (have hu := bis (w := w3) (hd 8 rfl); rw [hu] at hK ⊢; clear hu; go_step; exact hK _ _ rfl (Below.refl _ _) rfl)), trivial⟩); intro u w5 hb_w5 hF; rw [bis (w := w5) (hF 0 (by decide))]; rw [bis (w := w5) (hF 1 (by decide))]; rw [bis (w := w5) (hF 2 (by decide))]; rw [bis (w := w5) (hF 3 (by decide))]; generalize u 4 = vx4 at *; generalize u 5 = vx5 at *; generalize u 6 = vx6 at *; generalize u 7 = vx7 at *; rw [bis (w := w5) (hF 8 (by decide))]; have hz8 := hF 9 (by decide); generalize u 9 = z8 at *; rw [bis (w := w5) (hF 10 (by decide))]; clear hF
        obtain ⟨za, zn, zc, rfl, hlive⟩ := hz8
        have hz5 := hb_w5.size
        have hw5 := hw9.trans (hb_w5.mono hw9.size)
        have HLI := Lib.hid hlive
        have HO5 := Lib.hid (HO.out.below (hb9.trans (hb_w5.mono hz9)))
        clear hlive hb_w5 c9 HO
        cases O with
        | none =>
          have HNO := Lib.hid (show parts fs r = none from partl_none (partl_dead (r := r) HLA.out) _ (by rw [HN.out]; omega))
          go_wp2
          go_ret2
          exact ⟨_, _, _, by rw [HNO.out]; rfl, fun R h => (by rw [HNO.out] at h; cases h), hw5.alloc hw5.size _⟩
        | some live =>
          have hlv := HLI.out live rfl
          rw [show (some live : Option (List Bx)).isSome = true from rfl]
          obtain ⟨la, lc, hle2, hlc2, hlm2⟩ := hlv.form
          unfold maxLen at hlm2
          obtain ⟨-, hm, rfl⟩ := Value.slice.inj hle2
          rw [← hm] at hlc2
          replace hm := hm.symm
          have HLV := Lib.hid hlv
          have HM := Lib.hid hm
          have hm400 : zn ≤ 400 := by
            have h1 := HOO.out
            rw [← hm]
            exact (rvalid_all (blessB_valid HBV.out h1)).1
          obtain ⟨c, hc⟩ : ∃ c, accAt fs r k = c := ⟨_, rfl⟩
          have HC := Lib.hid hc
          have HL5 := HL.out
          rw [hc]
          clear hlv hm hc hle2 HLI
          go_wp2_with fail
          go_loopw [6, 12] (fun o i wr => ∃ (j : Nat), j ≤ zn ∧ i = .int .i64 j ∧ Hid (FtX (fun _ => False) w.heap.size wr o (addp L (live.take j) c)) ∧ Hid (BxsV (fun q => some q = o.ownBlock) wr (.slice za zn zc) live) ∧ Below w.heap.size w wr) (fun _ i _ => zn - (intOf i).toNat)
          case atStart => exact ⟨0, by omega, rfl, Lib.hid (by simpa [addp] using HO5.out), HLV, hw5⟩
          case round =>
            obtain ⟨j, hj, rfl, HOJ, HBJ, hbj⟩ := hrel
            have hzj := hbj.size
            obtain ⟨ja, jc, rfl⟩ := HOJ.out.form
            have hlj : (addp L (live.take j) c).length ≤ 800 := by rw [addp_len, List.length_take]; omega
            by_cases hjt : j < zn
            · have j1 : (j : Int) < (zn : Int) := by omega
              have j2 : (0 : Int) ≤ (j : Int) := by omega
              obtain ⟨f, hx⟩ : ∃ f, live[j]? = some f := ⟨_, List.getElem?_eq_getElem (by rw [HM.out]; exact hjt)⟩
              obtain ⟨b, o, sv, rfl, hbl, d0, hsv⟩ := HBJ.out.at hx
              obtain ⟨sa, sc, rfl, -, -⟩ := hsv.rws.form
              have HSU := Lib.hid (addp_succ (out := L) (a := c) hx)
              obtain ⟨Y, hY⟩ : ∃ Y, addp L (live.take j) c = Y := ⟨_, rfl⟩
              rw [hY] at HOJ HBJ HSU hlj hsv ⊢
              have hal : Below wr.heap.size wr (wr.alloc (.cells #[.slice sa f.length sc, .bool c] 81)) := (Below.refl _ _).alloc (Nat.le_refl _) _
              obtain ⟨v7, w7, hrun, hG, hgr, hat⟩ := ft_append (gs := [⟨f, c⟩]) 23 (HOJ.out.below hal) (litRF_at wr (.slice sa f.length sc) c 81) ⟨rfl, fun i x y hx hy => by
                match i, hx, hy with
                | 0, hx, hy =>
                  cases hx; cases hy
                  exact ⟨(hsv.below hal).sub (fun q hq => hq.elim id (fun h => h.elim)), rfl⟩
                | i + 1, hx, hy => simp at hx⟩ (by simp; omega) (by simp; omega)
              have hsz := hgr.size
              have hw7 : Below w.heap.size w w7 := (hbj.trans (hal.mono hzj)).grown hgr (by simp; omega) (fun z hz => (HOJ.out.lt z hz).1)
              have HG7 := Lib.hid (show FtX (fun _ => False) w.heap.size w7 v7 (addp L (live.take (j + 1)) c) by rw [HSU.out]; exact hG)
              have HB7 := Lib.hid (show BxsV (fun q => some q = v7.ownBlock) w7 (.slice (some ⟨b, o, none⟩) zn zc) live from (HBJ.out.below hal).keep hsz (fun q q1 q2 => ⟨hgr.block q q1 q2, fun e => (hat q e.symm).elim (fun h => q2 h.symm) (fun h => by omega)⟩))
              clear hG hgr hat hx hsv HBJ
              go_wp2_with (at_builtin; refine wpList_append_run rfl _ _ 23 rfl rfl rfl hrun ?_)
              go_wp2
              go_roundw
              case rel => exact ⟨j + 1, by omega, by go_num, HG7, HB7, hw7⟩
              case measure => simp [intOf]; omega
            · have hjn : j = zn := by omega
              have HT := Lib.hid (show live.take j = live from List.take_of_length_le (by rw [HM.out]; omega))
              have HY := Lib.hid (show FtX (fun _ => False) w.heap.size wr (.slice ja (addp L (live.take j) c).length jc) (addp L live c) by have := HOJ.out; rw [HT.out] at this ⊢; exact this)
              have HYL := Lib.hid (show (addp L (live.take j) c).length = (addp L live c).length by rw [HT.out])
              have HST := Lib.hid (partl_step HP.out HLA.out)
              obtain ⟨yl, hyl⟩ : ∃ yl, (addp L (live.take j) c).length = yl := ⟨_, rfl⟩
              rw [hyl] at HY HYL hlj ⊢
              clear hjn hyl HOJ HBJ
              by_cases h400 : yl ≤ 400
              · have HST2 := Lib.hid (show partl fs r (k + 1) = some (addp L live c) by rw [HST.out, HC.out, if_pos (by rw [← HYL.out]; exact h400)])
                have j3 : ¬ ((yl : Int) > 400) := by omega
                have j4 : ¬ ((400 : Int) < (yl : Int)) := by omega
                have HL9 := Lib.hid (show (addp L live c).length ≤ 400 by rw [← HYL.out]; exact h400)
                clear h400
                go_wp2
                go_roundw
                case rel => exact ⟨k + 1, _, by omega, by go_num, HY, HST2, HL9, hbj⟩
                case measure => simp [intOf]; omega
              · have HNO := Lib.hid (show parts fs r = none from partl_none (k := k + 1) (by rw [HST.out, HC.out, if_neg (by rw [← HYL.out]; exact h400)]) _ (by rw [HN.out]; omega))
                have j3 : (400 : Int) < (yl : Int) := by omega
                clear h400
                go_wp2
                go_ret2
                exact ⟨_, _, _, by rw [HNO.out]; rfl, fun R h => (by rw [HNO.out] at h; cases h), hbj.alloc hbj.size _⟩
    · have hkn : k = n + 1 := by omega
      have HE := Lib.hid (show parts fs r = some L by unfold parts; rw [HN.out, ← hkn]; exact HP.out)
      have HF := Lib.hid HO.out.fts
      have i1 : ¬ ((k : Int) ≤ (n : Int)) := by omega
      clear hkn
      go_wp2
      go_ret2
      exact ⟨_, _, _, by rw [HE.out]; rfl, fun R h => (by rw [HE.out] at h; cases h; exact HF.out), hbr⟩
theorem litBx_at (w : World) (s : Value) (ty : TypeId) : SlAt 1 enc1 (w.alloc (.cells #[s] ty)) (.slice (some ⟨w.heap.size, 0, none⟩) 1 1) [s] := by
  refine ⟨_, 1, rfl, by simp, by simp [maxLen], fun k x hk => ?_⟩
  match k, hk with
  | 0, hk =>
    cases hk
    refine ⟨w.heap.size, 0, rfl, by simp, fun j u hj => ?_⟩
    have := cellsNew w (enc1 s) ty j u hj
    rwa [Addr.add_lit] at this
  | k + 1, hk => simp at hk
theorem bx_append1 {X : Nat → Prop} {lo : Nat} {w : World} {v s : Value} {bs : List Bx} {b : Bx} (ty : TypeId) (ho : BxX X lo w v bs) (hs : RwV (fun k => some k = v.ownBlock ∨ X k) w s b) (hb : bs.length ≤ 1000000) (hlo : lo ≤ w.heap.size) :
    ∃ v' w', (Builtin.append_ #[30, 30] ty #[v, .slice (some ⟨w.heap.size, 0, none⟩) 1 1]).run Tryz.prog (w.alloc (.cells #[s] 68)) = .ok v' w' ∧ BxX X lo w' v' (bs ++ [b]) ∧ (∀ z, v.ownBlock = some z → lo ≤ z) ∧ (w.alloc (.cells #[s] 68)).grownBy w' v.ownBlock := by
  obtain ⟨i0, hi, hy0, hy1, hy2⟩ := info_parts infoBx
  have hal : Below w.heap.size w (w.alloc (.cells #[s] 68)) := (Below.refl _ _).alloc (Nat.le_refl _) _
  have ho' := ho.below hal
  obtain ⟨vs, g1, g2⟩ := ho
  obtain ⟨a, c, hf, -, -⟩ := hs.rws.form
  have e1 := g2.1
  obtain ⟨v', w', hrun, hown, hgr, hat⟩ := own_append_all (sz := 1) (enc := enc1) (by omega) (fun _ => rfl) (P := Tryz.prog) (w := w.alloc (.cells #[s] 68)) 30 ty 68 i0 _ 24 Tryz.underlying30 hi hy0 hy1 hy2 rfl (zs := [s]) (by rw [hf]; simp [Value.oneCell']) (OwnSl.kept g1 hal) (litBx_at w s 68) (by simp; omega) (by simp only [maxLen, List.length_singleton]; omega) (Nat.le_trans hlo hal.size)
  refine ⟨v', w', hrun, ?_, fun z hz => (World.ownsRow.lt g1 z hz).1, hgr⟩
  exact BxX.push (H := (w.alloc (.cells #[s] 68)).heap.size) (w := w.alloc (.cells #[s] 68)) (g2.mono (fun _ _ g => g.below hal)) ((All2.nil).snoc (hs.below hal)) (grown_self hgr) hat (Nat.le_refl _) hown
theorem psel_succ {L : List Ft} {a : Bool} {k : Nat} {f : Ft} (h : L[k]? = some f) : psel (L.take (k + 1)) a = psel (L.take k) a ++ (if f.acc = a then [f.box] else []) := by
  unfold psel
  rw [List.take_add_one, h, Option.toList_some, List.filter_append, List.map_append]
  congr 1
  by_cases e : f.acc = a
  · rw [if_pos e]; simp [e]
  · rw [if_neg e]; simp [e]
set_option maxHeartbeats 4000000 in
set_option maxRecDepth 100000 in
theorem l17Split_any {lo : Nat} (L : List Ft) (a : Bool) (v : Value) (w : World) (hs : Fts lo w v L) (hl : L.length ≤ 1000) :
    Calls Tryz.prog 54 #[v, .bool a] w fun e w' => ∃ z, e = .returned z ∧ Bxs 0 w' z (psel L a) ∧ Below w.heap.size w w' := by
  obtain ⟨la, cap, rfl, hlc, hcm⟩ := hs.form
  unfold maxLen at hcm
  generalize hn : L.length = n at *
  have HN := Lib.hid hn
  have HS := Lib.hid hs
  clear hs hn
  have HO0 := Lib.hid (show BxX (fun _ => False) w.heap.size (w.alloc (.cells #[] 68)) (.slice (some ⟨w.heap.size, 0, none⟩) 0 0) [] from ⟨[], litOwn 68 1 enc1 (Nat.le_refl _), All2.nil⟩)
  have hal0 : Below w.heap.size w (w.alloc (.cells #[] 68)) := (Below.refl _ _).alloc (Nat.le_refl _) _
  go_enter Tryz.func54, Tryz.ntmps54
  go_wp2_with fail
  go_loopw [5, 6] (fun o i wr => ∃ k : Nat, k ≤ n ∧ i = .int .i64 k ∧ Hid (BxX (fun _ => False) w.heap.size wr o (psel (L.take k) a)) ∧ Below w.heap.size w wr) (fun _ i _ => n - (intOf i).toNat)
  case atStart => exact ⟨0, by omega, rfl, HO0, hal0⟩
  case round =>
    obtain ⟨k, hk, rfl, HO, hbr⟩ := hrel
    clear HO0 hal0
    have hzr := hbr.size
    obtain ⟨oa, oc, rfl⟩ := HO.out.form
    by_cases hlt : k < n
    · have i1 : (k : Int) < (n : Int) := by omega
      have i2 : (0 : Int) ≤ (k : Int) := by omega
      obtain ⟨f, hx⟩ : ∃ f, L[k]? = some f := ⟨_, List.getElem?_eq_getElem (by rw [HN.out]; exact hlt)⟩
      obtain ⟨b, o, sv, rfl, hbl, d0, d1, hsv⟩ := (HS.out.below hbr).at hx
      obtain ⟨sa, sc, rfl, -, -⟩ := hsv.form
      have HSU := Lib.hid (psel_succ (a := a) hx)
      have hpl : (psel (L.take k) a).length ≤ 1000 := by have := psel_len (L.take k) a; rw [List.length_take] at this; omega
      have HXL := Lib.hid (fun q (hq : some q = (Value.slice oa (psel (L.take k) a).length oc).ownBlock) => by
        obtain ⟨vs, g1, _⟩ := HO.out
        exact (World.ownsRow.lt g1 q hq.symm).1)
      have hsv0 : RwV (fun q => some q = (Value.slice oa (psel (L.take k) a).length oc).ownBlock ∨ False) wr (.slice sa f.box.length sc) f.box := by
        obtain ⟨b2, o2, sv2, hb2, _, c2, _, hsv2⟩ := HS.out.at hx
        cases hb2
        have c2' := (hbr.cell (p := ⟨b, o + k * 2, none⟩) (World.block_lt_of_cell? _ _ c2)).trans c2
        rw [d0] at c2'
        cases c2'
        exact RwV.old hsv2 hbr (fun q hq => hq.elim (fun e => HXL.out q e) (fun h => h.elim))
      obtain ⟨Y, hY⟩ : ∃ Y, psel (L.take k) a = Y := ⟨_, rfl⟩
      rw [hY] at HO HSU hpl HXL hsv0 ⊢
      obtain ⟨fa, hfa⟩ : ∃ fa, f.acc = fa := ⟨_, rfl⟩
      rw [hfa] at d1 HSU
      clear hx hsv hY hfa
      by_cases hac : fa = a
      · subst hac
        obtain ⟨v7, w7, hrun, hG, hlow, hgr⟩ := bx_append1 30 HO.out hsv0 (by omega) hzr
        have hal : Below wr.heap.size wr (wr.alloc (.cells #[.slice sa f.box.length sc] 68)) := (Below.refl _ _).alloc (Nat.le_refl _) _
        have hw7 : Below w.heap.size w w7 := (hbr.trans (hal.mono hzr)).grown hgr (by simp; omega) hlow
        have HG7 := Lib.hid (show BxX (fun _ => False) w.heap.size w7 v7 (psel (L.take (k + 1)) fa) by rw [HSU.out, if_pos rfl]; exact hG)
        have hbq : (fa == fa) = true := by cases fa <;> rfl
        clear hG hgr hsv0
        go_wp2_with (at_builtin; refine wpList_append_run rfl _ _ 30 rfl rfl rfl hrun ?_)
        go_wp2
        go_roundw
        case rel => exact ⟨k + 1, by omega, by go_num, HG7, hw7⟩
        case measure => simp [intOf]; omega
      · have hbq : (fa == a) = false := by simpa using hac
        have HG7 := Lib.hid (show BxX (fun _ => False) w.heap.size wr (.slice oa Y.length oc) (psel (L.take (k + 1)) a) by rw [HSU.out, if_neg hac, List.append_nil]; exact HO.out)
        clear hac hsv0
        go_wp2
        go_roundw
        case rel => exact ⟨k + 1, by omega, by go_num, HG7, hbr⟩
        case measure => simp [intOf]; omega
    · have hkn : k = n := by omega
      have HF := Lib.hid (show Bxs 0 wr (.slice oa (psel (L.take k) a).length oc) (psel L a) by
        have h := HO.out.bxs
        have e : L.take k = L := List.take_of_length_le (by rw [HN.out]; omega)
        rw [e] at h ⊢
        exact h)
      clear hkn
      go_wp2
      go_ret
      exact ⟨_, rfl, HF.out, hbr⟩
set_option maxHeartbeats 2000000 in
set_option maxRecDepth 100000 in
theorem specFlatParts_e {lo : Nat} {fs : List Ft} {R : List Bx} {r c q : Bool} {v : Value} {w : World} (hs : Fts lo w v fs) (hN : ftN fs ≤ 1048576) (h : fpart fs r c = R) (hq : (fparts fs r).isSome = q) :
    Calls Tryz.prog 24 #[v, .bool r, .bool c] w fun e w' => ∃ v', e = .returned (.tuple #[v', .bool q]) ∧ Bxs 0 w' v' R ∧ Below w.heap.size w w' := by
  have HR := Lib.hid h
  have HQ := Lib.hid hq
  clear h hq
  obtain ⟨fv, hfv⟩ : ∃ fv, fvalid fs = fv := ⟨_, rfl⟩
  go_enter Tryz.func24, Tryz.ntmps24
  go_wp2_with fail
  refine (ownFlats_any fs _ _ hs hN).mono ?_
  rintro e w1 ⟨v1, rfl, ho1, hb1⟩
  have hz1 := hb1.size
  have hs1 := ho1.fts
  obtain ⟨sa, sc, rfl, hsc, hsm⟩ := hs1.form
  unfold maxLen at hsm
  clear hs ho1
  go_wp2_with fail
  refine (specFV_b hs1 hfv).mono ?_
  rintro e w2 ⟨rfl, hb2⟩
  have hw2 := hb1.trans (hb2.mono hz1)
  have hs2 := hs1.below hb2
  clear hb2 hs1 hb1
  have hnil : ∀ wx : World, Bxs 0 (wx.alloc (.cells #[] 68)) (.slice (some ⟨wx.heap.size, 0, none⟩) 0 0) [] := fun wx => ⟨[], SlFr.mono (OwnSl.fr (sz := 1) (enc := enc1) (fun _ => rfl) (litOwn 68 1 enc1 (base := wx.heap.size) (w := wx) (Nat.le_refl _))) (Nat.zero_le _), All2.nil⟩
  have HNI := Lib.hid hnil
  clear hnil
  cases fv
  · have hn := fparts_inv (r := r) hfv
    have HR0 := Lib.hid (show R = [] by rw [← HR.out, fpart_no hn])
    have HQ0 := Lib.hid (show q = false by rw [← HQ.out, hn]; rfl)
    have hq0 := HQ0.out
    subst hq0
    go_wp2
    go_ret2
    exact ⟨_, rfl, by rw [HR0.out]; exact HNI.out _, hw2.alloc hw2.size _⟩
  · have HF := Lib.hid (fparts_yes (r := r) hfv)
    obtain ⟨O, hO⟩ : ∃ O, parts fs r = O := ⟨_, rfl⟩
    have HO := Lib.hid hO
    have HV := Lib.hid hfv
    clear hfv
    go_wp2_with fail
    refine (l17Live_any fs r _ _ hs2 HV.out).mono ?_
    rw [hO]
    rintro e w3 ⟨za, zn, zc, rfl, hp3, hb3⟩
    have hw3 := hw2.trans (hb3.mono hw2.size)
    have HP := Lib.hid hp3
    clear hp3 hb3 hs2 hO
    cases O with
    | none =>
      have hn : fparts fs r = none := by rw [HF.out, HO.out]
      have HR0 := Lib.hid (show R = [] by rw [← HR.out, fpart_no hn])
      have HQ0 := Lib.hid (show q = false by rw [← HQ.out, hn]; rfl)
      clear hn
      rw [show (none : Option (List Ft)).isSome = false from rfl]
      have hq0 := HQ0.out
      subst hq0
      go_wp2
      go_ret2
      exact ⟨_, rfl, by rw [HR0.out]; exact HNI.out _, hw3.alloc hw3.size _⟩
    | some x =>
      have hn : fparts fs r = some x := by rw [HF.out, HO.out]
      have HR0 := Lib.hid (show psel x c = R by rw [← HR.out, fpart_yes hn])
      have HQ0 := Lib.hid (show q = true by rw [← HQ.out, hn]; rfl)
      have hx3 := HP.out x rfl
      have hx4 : x.length ≤ 400 := (partl_good HV.out HO.out).1
      clear hn
      rw [show (some x : Option (List Ft)).isSome = true from rfl]
      go_wp2_with fail
      refine (l17Split_any x c _ _ hx3 (by omega)).mono ?_
      rw [HR0.out]
      rintro e w4 ⟨z4, rfl, ho4, hb4⟩
      have hw4 := hw3.trans (hb4.mono hw3.size)
      have HO4 := Lib.hid ho4
      clear hb4 hx3 ho4
      have hq0 := HQ0.out
      subst hq0
      go_wp2
      go_ret2
      exact ⟨_, rfl, HO4.out, hw4⟩
end Go.Proofs.YtajcogpfmpehkaaGreatDoor
