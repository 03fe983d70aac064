/- Two versions of a list of rules: copies and the draw. -/
import Derived.Test.YtajcogpfmpehkaaGreatDoorPaS
import Derived.Test.YtajcogpfmpehkaaGreatDoorDr
import Derived.Test.YtajcogpfmpehkaaGreatDoorShW
import Derived.Test.YtajcogpfmpehkaaGreatDoorDxBT
import Derived.Test.YtajcogpfmpehkaaGreatDoorDx
namespace Go.Proofs.YtajcogpfmpehkaaGreatDoor
open Go.RowKit
theorem SlV.hi {α : Type} {sz lo : Nat} {enc : α → List Value} {w : World} {v : Value} {xs : List α} (h : SlV (fun k => k < lo) sz enc w v xs) : SlFr lo sz enc w v xs := by
  obtain ⟨⟨a, cap, rfl, h1, h2, hx⟩, hP⟩ := h
  refine ⟨a, cap, rfl, h1, h2, fun k x hk => ?_⟩
  obtain ⟨b, o, e, hb, h3, hc⟩ := hx k x hk
  subst e
  exact ⟨b, o, rfl, Nat.not_lt.1 (hP _ _ _ rfl (by rintro rfl; simp at hk)), h3, hc⟩
theorem RwV.hi {lo : Nat} {w : World} {v : Value} {b : Bx} (h : RwV (fun k => k < lo) w v b) : Rws lo w v b :=
  let ⟨vs, h1, h2⟩ := h
  ⟨vs, h1.hi, h2.mono (fun _ _ g => (SlV.hi g : SlFr lo 2 Sp.enc w _ _))⟩
theorem FtX.hi {lo lo1 : Nat} {w : World} {v : Value} {fs : List Ft} (h : FtX (fun k => k < lo) lo1 w v fs) (hl : lo ≤ lo1) : Fts lo w v fs := by
  obtain ⟨rs, h1, h2⟩ := h
  exact ⟨rs, SlFr.mono (OwnSl.fr (sz := 2) (enc := RF.enc) (fun _ => rfl) h1) hl, h2.mono (fun _ _ g => ⟨(g.1.sub (fun k hk => .inr hk)).hi, g.2⟩)⟩
theorem RwV.clear {lo : Nat} {w w' : World} {v u : Value} {b : Bx} (h : Rws lo w v b) (hb : Below w.heap.size w w') (hu : ∀ z, u.ownBlock = some z → w.heap.size ≤ z) : RwV (fun k => some k = u.ownBlock ∨ k < lo) w' v b :=
  RwV.keep (RwV.high h (fun _ h => h)) hb.size (fun k k1 k2 => ⟨hb.block k k1, fun e => by
    rcases e with e | e
    · have := hu k e.symm
      omega
    · exact k2 e⟩)
theorem Fts.mv {R lo : Nat} {w w' : World} {v : Value} {fs : List Ft} (h : Fts lo w v fs) (hm : Mv R w.heap.size w w') (hR : R < lo) : Fts lo w' v fs := h.keep ⟨hm.size, fun q q1 q2 => hm.block q q2 (by omega)⟩
/-- A list put behind an empty literal. -/
theorem ft_copy {lo : Nat} {w : World} {v : Value} {fs : List Ft} (ty : TypeId) (h : Fts lo w v fs) (hl : lo ≤ w.heap.size) (hn : fs.length ≤ 1000) :
    ∃ v' w', (Builtin.append_ #[23, 23] ty #[.slice (some ⟨w.heap.size, 0, none⟩) 0 0, v]).run Tryz.prog (w.alloc (.cells #[] 81)) = .ok v' w' ∧ Fts lo w' v' fs ∧ Below w.heap.size w w' := by
  have hal : Below w.heap.size w (w.alloc (.cells #[] 81)) := (Below.refl _ _).alloc (Nat.le_refl _) _
  obtain ⟨rs, h1, h2⟩ := h
  have ho : FtX (fun k => k < lo) w.heap.size (w.alloc (.cells #[] 81)) (.slice (some ⟨w.heap.size, 0, none⟩) 0 0) [] := ⟨[], litOwn 81 2 RF.enc (Nat.le_refl _), All2.nil⟩
  obtain ⟨v', w', hrun, hG, hgr, -⟩ := ft_append (gs := fs) ty ho (h1.below hal).at (h2.mono (fun _ _ g => ⟨RwV.clear g.1 hal (fun z hz => by cases hz; exact Nat.le_refl _), g.2⟩)) (by simp; omega) (by simp)
  exact ⟨v', w', hrun, hG.hi hl, hal.grown hgr (by simp) (fun z hz => (ho.lt z hz).1)⟩
theorem litRF2_at (w : World) (s u : Value) (c d : Bool) (ty : TypeId) : SlAt 2 RF.enc (w.alloc (.cells #[s, .bool c, u, .bool d] ty)) (.slice (some ⟨w.heap.size, 0, none⟩) 2 2) [⟨s, c⟩, ⟨u, d⟩] := by
  refine ⟨_, 2, rfl, by simp, by simp [maxLen], fun k x hk => ?_⟩
  match k, hk with
  | 0, hk =>
    cases hk
    refine ⟨w.heap.size, 0, rfl, by simp, fun j u hj => ?_⟩
    match j, hj with
    | 0, hj => cases hj; simp
    | 1, hj => cases hj; simp
    | j + 2, hj => simp [RF.enc] at hj
  | 1, hk =>
    cases hk
    refine ⟨w.heap.size, 0, rfl, by simp, fun j u hj => ?_⟩
    match j, hj with
    | 0, hj => cases hj; simp
    | 1, hj => cases hj; simp
    | j + 2, hj => simp [RF.enc] at hj
  | k + 2, hk => simp at hk
theorem SlFr.dropK {α : Type} {lo sz : Nat} {enc : α → List Value} {w : World} {a : Option Addr} {n cap k : Nat} {xs : List α} (h : SlFr lo sz enc w (.slice a n cap) xs) (hk : k ≤ n) : SlAt sz enc w (.slice (dropA a cap k sz) (n - k) (cap - k)) (xs.drop k) := h.at.drop hk
/-- Rules put behind others, all but the first two. -/
theorem ft_tail {lo : Nat} {W w : World} {v8 : Value} {rs2 : List RF} {gs2 fs : List Ft} {a : Option Addr} {n cap : Nat} (ty : TypeId) (hC : Below W.heap.size W w) (h8 : OwnSl W.heap.size 81 2 RF.enc w v8 rs2) (h2 : All2 (fun (r : RF) (f : Ft) => Rws lo W r.s f.box ∧ r.acc = f.acc) rs2 gs2)
    (hs : Fts lo W (.slice a n cap) fs) (hk : 2 ≤ n) (hl : lo ≤ W.heap.size) (hn : gs2.length + fs.length ≤ 1000) :
    ∃ v' w', (Builtin.append_ #[23, 23] ty #[v8, .slice (dropA a cap 2 2) (n - 2) (cap - 2)]).run Tryz.prog w = .ok v' w' ∧ Fts lo w' v' (gs2 ++ fs.drop 2) ∧ Below W.heap.size W w' := by
  have hown : ∀ z, v8.ownBlock = some z → W.heap.size ≤ z := fun z hz => (World.ownsRow.lt h8 z hz).1
  obtain ⟨rs, h3, h4⟩ := hs
  have ho : FtX (fun k => k < lo) W.heap.size w v8 gs2 := ⟨rs2, h8, h2.mono (fun _ _ g => ⟨RwV.clear g.1 hC hown, g.2⟩)⟩
  have hd : All2 (fun (r : RF) (f : Ft) => RwV (fun k => some k = v8.ownBlock ∨ k < lo) w r.s f.box ∧ r.acc = f.acc) (rs.drop 2) (fs.drop 2) := by
    refine ⟨by rw [List.length_drop, List.length_drop, h4.1], fun k x y hx hy => ?_⟩
    rw [List.getElem?_drop] at hx hy
    obtain ⟨g1, g2⟩ := h4.2 _ x y hx hy
    exact ⟨RwV.clear g1 hC hown, g2⟩
  obtain ⟨v', w', hrun, hG, hgr, -⟩ := ft_append (gs := fs.drop 2) (ws := rs.drop 2) ty ho ((h3.below hC).dropK hk) hd (by rw [List.length_drop]; omega) hC.size
  exact ⟨v', w', hrun, hG.hi hl, hC.grown hgr hC.size hown⟩
theorem FtOk.take {n : Nat → Prop} {fs : List Ft} (h : FtOk n fs) (k : Nat) : FtOk n (fs.take k) := fun j f hf => h j f (get_take hf).2
theorem FtOk.valid {fs : List Ft} (h : fvalid fs = true) : FtOk (fun n => n ≤ 4) fs := fun k f hf => by
  have hb := fvalid_at h hf
  exact ⟨by have := (bvalid_four hb).1; omega, fun j xs hx => by have := bvalid_lens hb j xs hx; omega⟩
theorem FtOk.two {n : Nat → Prop} {fs : List Ft} {f g : Ft} (h : FtOk n fs) (hf : fs[0]? = some f) (hg : fs[1]? = some g) : FtOk n ([g, f] ++ fs.drop 2) := fun k x hx => by
  match k, hx with
  | 0, hx => cases hx; exact h 1 _ hg
  | 1, hx => cases hx; exact h 0 _ hf
  | k + 2, hx =>
    rw [List.getElem?_append_right (by simp), List.getElem?_drop] at hx
    exact h _ x hx
def DrewVe (R : Nat) (w : World) (e : Ending) (w' : World) : Prop := ∃ v u fs gs r c, e = .returned (.tuple #[v, .bool r, u, .bool c]) ∧ FsO w.heap.size w' v fs ∧ fs.length ≤ 61 ∧ FtOk (fun n => n ≤ 4) fs ∧ Fts 0 w' u gs ∧ gs.length ≤ 61 ∧ FtOk (fun n => n ≤ 4) gs ∧ Mv R w.heap.size w w'
set_option maxHeartbeats 8000000 in
set_option maxRecDepth 100000 in
theorem versions_any (R : Nat) (bs : List Int) (p : Nat) (w : World) (h : RdAt R bs w p) (hp : p ≤ 100000) : Calls Tryz.prog 18 #[.pointer (some ⟨R, 0, none⟩)] w (DrewVe R w) := by
  have hR := h.lt
  obtain ⟨i0, hi, hy0, hy1, hy2⟩ := info_parts infoFt
  go_enter Tryz.func18, Tryz.ntmps18
  go_wp2_with fail
  refine (drawFts_any R bs p 16 _ h (by omega) (by omega) (by omega)).mono ?_
  rintro e w1 ⟨v1, fs, q1, rfl, ho1, hl1, hk1, hr1, hq1, hm1⟩
  have hz1 := hm1.size
  obtain ⟨sa, cap, rfl, hlc, hcm⟩ := ho1.fts.form
  unfold maxLen at hcm
  obtain ⟨v2, w2, hrun, hF2, hb2⟩ := ft_copy (lo := w.heap.size) 23 ho1.fts hz1 (by omega)
  have HO2 := Lib.hid (ho1.below hb2)
  have hr2 := hr1.below hb2
  have hM2 : Mv R w.heap.size w w2 := hm1.trans (Mv.of_below (hb2.mono hz1))
  have hz2 := hM2.size
  have HKK := Lib.hid hk1
  clear ho1 hr1 hm1 hb2 hk1
  go_wp2_with (at_builtin; refine wpList_append_run rfl _ _ 23 rfl rfl rfl hrun ?_)
  refine (pick_any R bs _ _ _ hr2 (by omega) (by omega)).mono ?_
  rintro e w3 ⟨x3, rfl, a3, b3, -, hr3, hm3⟩
  have hz3 := hm3.size
  have HO3 := Lib.hid (HO2.out.mv hm3 hR)
  have HF3 := Lib.hid (hF2.mv hm3 hR)
  have hM3 := hM2.trans (hm3.mono hz2)
  clear b3 hr2 hm3 hF2 HO2 hrun hM2
  obtain ⟨r, hr⟩ : ∃ r : Bool, (x3 == 0) = r := ⟨_, rfl⟩
  go_wp2_with fail
  refine (pick_any R bs _ _ _ hr3 (by omega) (by omega)).mono ?_
  rintro e w4 ⟨x4, rfl, a4, b4, -, hr4, hm4⟩
  have hx4 := b4 (by omega)
  have hz4 := hm4.size
  have HO4 := Lib.hid (HO3.out.mv hm4 hR)
  have HF4 := Lib.hid (HF3.out.mv hm4 hR)
  have hM4 := hM3.trans (hm4.mono hM3.size)
  have hzw := hM4.size
  obtain ⟨ba, bc, rfl, hbc1, hbc2⟩ := HF4.out.form
  unfold maxLen at hbc2
  clear b4 hr3 hm4 HO3 HF3 hM3
  obtain ⟨n, hn⟩ : ∃ n, fs.length = n := ⟨_, rfl⟩
  have HN := Lib.hid hn
  rw [hn] at HO4 HF4 hlc hl1 hbc1 ⊢
  clear hn
  rcases (by omega : x4 = 0 ∨ x4 = 1 ∨ x4 = 2 ∨ x4 = 3) with rfl | rfl | rfl | rfl
  · go_wp2_with fail
    refine (drawFts_any R bs _ 16 _ hr4 (by omega) (by omega) (by omega)).mono ?_
    rintro e w5 ⟨v5, gs, q5, rfl, ho5, hl5, hk5, hr5, hq5, hm5⟩
    have HO5 := Lib.hid (HO4.out.mv hm5 hR)
    have hM5 := hM4.trans (hm5.mono hzw)
    obtain ⟨ca, cc, rfl, -, -⟩ := ho5.fts.form
    have HG5 := Lib.hid (ho5.fts.mono (Nat.zero_le _))
    have HK5 := Lib.hid hk5
    clear hr5 hm5 ho5 hk5 hr4
    go_wp2_with fail
    exact bodyPost_ret (v := .tuple #[.slice sa n cap, .bool r, .slice ca gs.length cc, .bool r]) (by simp [results, Tryz.results18, go_sem]) rfl ⟨_, _, fs, gs, r, r, rfl, HO5.out, by rw [HN.out]; exact hl1, HKK.out, HG5.out, hl5, HK5.out, hM5⟩
  · by_cases h0 : n = 0
    · subst h0
      go_wp2_with fail
      exact bodyPost_ret (v := .tuple #[.slice sa 0 cap, .bool r, .slice ba 0 bc, .bool r]) (by simp [results, Tryz.results18, go_sem]) rfl ⟨_, _, fs, fs, r, r, rfl, HO4.out, by rw [HN.out]; omega, HKK.out, HF4.out.mono (Nat.zero_le _), by rw [HN.out]; omega, HKK.out, hM4⟩
    · obtain ⟨m, rfl⟩ : ∃ m, n = m + 1 := ⟨n - 1, by omega⟩
      have HT := Lib.hid ((HF4.out.take (k := m) (by omega)).mono (Nat.zero_le _))
      have i1 : (0 : Int) < ((m + 1 : Nat) : Int) := by omega
      have i2 : ((m + 1 : Nat) : Int) - 1 = (m : Int) := by omega
      have hTL : (fs.take m).length = m := by rw [List.length_take, HN.out]; omega
      go_wp2_with (refine wpList_slice_to rfl rfl Tryz.underlying23 hi rfl rfl (show m ≤ bc by omega) ?_)
      exact bodyPost_ret (v := .tuple #[.slice sa (m + 1) cap, .bool r, .slice ba m bc, .bool r]) (by simp [results, Tryz.results18, go_sem]) rfl ⟨_, _, fs, fs.take m, r, r, rfl, HO4.out, by rw [HN.out]; exact hl1, HKK.out, HT.out, by rw [hTL]; omega, HKK.out.take m, hM4⟩
  · obtain ⟨gs, hgs⟩ : ∃ gs, shoB fs r = gs := ⟨_, rfl⟩
    have HG := Lib.hid (show FtOk (fun n => n ≤ 4) gs ∧ gs.length ≤ 61 by
      rw [← hgs]
      exact ⟨FtOk.valid (shoB_valid fs r), by have := shoB_len fs r; have := HN.out; omega⟩)
    have HGS := Lib.hid hgs
    have HFN := Lib.hid (drawn_ftN (by rw [HN.out]; exact hl1) HKK.out)
    clear hgs hr4
    go_wp2_with fail
    refine (specShorten_e HO4.out.fts HFN.out HGS.out).mono ?_
    rintro e w5 ⟨v5, rfl, ho5, hb5⟩
    have HO5 := Lib.hid (HO4.out.below hb5)
    have hM5 := hM4.trans (Mv.of_below (hb5.mono hzw))
    obtain ⟨ca, cc, rfl, -, -⟩ := ho5.form
    have HG5 := Lib.hid ho5
    clear hb5 ho5
    go_wp2_with fail
    exact bodyPost_ret (v := .tuple #[.slice sa n cap, .bool r, .slice ca gs.length cc, .bool r]) (by simp [results, Tryz.results18, go_sem]) rfl ⟨_, _, fs, gs, r, r, rfl, HO5.out, by rw [HN.out]; exact hl1, HKK.out, HG5.out, HG.out.2, HG.out.1, hM5⟩
  · by_cases h2 : n ≤ 1
    · have i1 : ¬ (1 : Int) < (n : Int) := by omega
      go_wp2_with fail
      refine (odd_any R bs _ _ _ hr4 (by omega) (by omega) (by omega)).mono ?_
      rintro e w5 ⟨x5, q5, rfl, hr5, hq5, hm5⟩
      have HO5 := Lib.hid (HO4.out.mv hm5 hR)
      have HF5 := Lib.hid ((HF4.out.mv hm5 hR).mono (Nat.zero_le _))
      have hM5 := hM4.trans (hm5.mono hzw)
      clear hr5 hm5
      obtain ⟨c, hc⟩ : ∃ c, (r != x5) = c := ⟨_, rfl⟩
      go_wp2_with fail
      exact bodyPost_ret (v := .tuple #[.slice sa n cap, .bool r, .slice ba n bc, .bool (r != x5)]) (by simp [results, Tryz.results18, go_sem] <;> (cases r <;> cases x5 <;> rfl)) rfl ⟨_, _, fs, fs, r, _, rfl, HO5.out, by rw [HN.out]; exact hl1, HKK.out, HF5.out, by rw [HN.out]; exact hl1, HKK.out, hM5⟩
    · have i1 : (1 : Int) < (n : Int) := by omega
      have i9 : (0 : Int) < (n : Int) := by omega
      obtain ⟨f, hf⟩ : ∃ f, fs[0]? = some f := ⟨_, List.getElem?_eq_getElem (by rw [HN.out]; omega)⟩
      obtain ⟨g, hg⟩ : ∃ g, fs[1]? = some g := ⟨_, List.getElem?_eq_getElem (by rw [HN.out]; omega)⟩
      have HTW := Lib.hid (FtOk.two HKK.out hf hg)
      obtain ⟨lo, hlo⟩ : ∃ lo, w.heap.size = lo := ⟨_, rfl⟩
      have HFL := Lib.hid (show Fts lo w4 (.slice ba n bc) fs by rw [← hlo]; exact HF4.out)
      have hlow : lo ≤ w4.heap.size := by omega
      have hRlo : R < lo := by omega
      obtain ⟨b, o, sv, rfl, hbl, c0, c1, hsv⟩ := HFL.out.at hf
      obtain ⟨b', o', tv, hbo, hbl', d0, d1, htv⟩ := HFL.out.at hg
      cases hbo
      obtain ⟨x1, y1, rfl, -, -⟩ := hsv.form
      obtain ⟨x2, y2, rfl, -, -⟩ := htv.form
      simp only [Nat.zero_mul, Nat.add_zero, Nat.one_mul] at c0 c1 d0 d1
      have HL2 := Lib.hid (show All2 (fun (r : RF) (f : Ft) => Rws lo w4 r.s f.box ∧ r.acc = f.acc) [⟨.slice x2 g.box.length y2, g.acc⟩, ⟨.slice x1 f.box.length y1, f.acc⟩] [g, f] from ⟨rfl, fun k x y hx hy => by
        match k, hx, hy with
        | 0, hx, hy => cases hx; cases hy; exact ⟨htv, rfl⟩
        | 1, hx, hy => cases hx; cases hy; exact ⟨hsv, rfl⟩
        | k + 2, hx, hy => simp at hx⟩)
      have HTL := Lib.hid (show [g, f].length + fs.length ≤ 1000 by rw [HN.out]; simp; omega)
      generalize f.box.length = fl at *
      generalize g.box.length = gl at *
      generalize f.acc = fa at *
      generalize g.acc = ga at *
      have hn2 : 2 ≤ n := by omega
      clear hsv htv hf hg hbl' HF4
      go_wp2_with fail
      refine wp_region_turn2 (W := w4) 11 [(fun wx v => ∃ B, v = .slice (some ⟨B, 0, none⟩) 0 0 ∧ OwnSl w4.heap.size 81 2 RF.enc wx (.slice (some ⟨B, 0, none⟩) 0 0) ([] : List RF)), BIs (.slice (some ⟨b, o, none⟩) n bc), BIs (.pointer (some ⟨b, o + 2, none⟩)), BIs (.agg #[.slice x2 gl y2, .bool ga]), BIs (.slice (some ⟨b, o, none⟩) n bc), BIs (.pointer (some ⟨b, o, none⟩)), BIs (.agg #[.slice x1 fl y1, .bool fa]), (fun wx v => SlAt 2 RF.enc wx v [⟨.slice x2 gl y2, ga⟩, ⟨.slice x1 fl y1, fa⟩]), (fun wx v => OwnSl w4.heap.size 81 2 RF.enc wx v [⟨.slice x2 gl y2, ga⟩, ⟨.slice x1 fl y1, fa⟩]), BIs (.slice (some ⟨b, o, none⟩) n bc), (BIs (.slice (dropA (some ⟨b, o, none⟩) bc 2 2) (n - 2) (bc - 2)))] (bof [(fun _ _ => True), BIs (.slice (some ⟨b, o, none⟩) n bc), BIs (.pointer (some ⟨b, o + 2, none⟩)), BIs (.agg #[.slice x2 gl y2, .bool ga]), BIs (.slice (some ⟨b, o, none⟩) n bc), BIs (.pointer (some ⟨b, o, none⟩)), BIs (.agg #[.slice x1 fl y1, .bool fa]), (fun _ _ => True), (fun _ _ => True), BIs (.slice (some ⟨b, o, none⟩) n bc), (fun _ _ => True), (fun wx v => Fts lo wx v ([g, f] ++ fs.drop 2) ∧ Below w4.heap.size w4 wx), (fun wx v => Fts lo wx v ([g, f] ++ fs.drop 2) ∧ Below w4.heap.size w4 wx)]) (by kernel_rfl) (by decide) (fun u => by simp only [frU, Act.put, List.setIfInBounds_toArray, List.set_cons_succ, List.set_cons_zero, Nat.zero_add, Nat.reduceAdd]; exact rfl) (by kernel_rfl) ⟨(fun _ _ _ hb ⟨B, h1, h2⟩ => ⟨B, h1, OwnSl.kept h2 hb⟩), bst_is _, bst_is _, bst_is _, bst_is _, bst_is _, bst_is _, (fun _ _ _ hb h => SlAt.below h hb), (fun _ _ _ hb h => OwnSl.kept h hb), bst_is _, (bst_is _), trivial⟩ ?_ ?_; (exact ⟨stT rfl (by decide) (by kernel_rfl) (fun u w3 hC hd hI Q K hK => by (go_step; exact hK _ _ rfl ((Below.refl _ _).alloc (Nat.le_refl _) _) ⟨_, rfl, litOwn 81 2 RF.enc hC.size⟩)), stT rfl (by decide) (by kernel_rfl) (fun u w3 hC hd hI Q K hK => by (rw [show u 12 = .slice (some ⟨b, o, none⟩) n bc from hI 12 _ rfl (by kernel_rfl)] at hK ⊢; go_step; exact hK _ _ rfl (Below.refl _ _) rfl)), stT rfl (by decide) (by kernel_rfl) (fun u w3 hC hd hI Q K hK => by (have hu := bis (w := w3) (hd 1 rfl); rw [hu] at hK ⊢; clear hu; go_step; exact hK _ _ rfl (Below.refl _ _) rfl)), stT rfl (by decide) (by kernel_rfl) (fun u w3 hC hd hI Q K hK => by (have hu := bis (w := w3) (hd 2 rfl); rw [hu] at hK ⊢; clear hu; have z0 := (hC.cell (p := ⟨b, o + 2, none⟩) hbl).trans d0; have z1 := (hC.cell (p := ⟨b, o + 2 + 1, none⟩) hbl).trans d1; go_step; exact hK _ _ rfl (Below.refl _ _) rfl)), stT rfl (by decide) (by kernel_rfl) (fun u w3 hC hd hI Q K hK => by (rw [show u 12 = .slice (some ⟨b, o, none⟩) n bc from hI 12 _ rfl (by kernel_rfl)] at hK ⊢; go_step; exact hK _ _ rfl (Below.refl _ _) rfl)), stT rfl (by decide) (by kernel_rfl) (fun u w3 hC hd hI Q K hK => by (have hu := bis (w := w3) (hd 4 rfl); rw [hu] at hK ⊢; clear hu; go_step; exact hK _ _ rfl (Below.refl _ _) rfl)), stT rfl (by decide) (by kernel_rfl) (fun u w3 hC hd hI Q K hK => by (have hu := bis (w := w3) (hd 5 rfl); rw [hu] at hK ⊢; clear hu; have z0 := (hC.cell (p := ⟨b, o, none⟩) hbl).trans c0; have z1 := (hC.cell (p := ⟨b, o + 1, none⟩) hbl).trans c1; go_step; exact hK _ _ rfl (Below.refl _ _) rfl)), stT rfl (by decide) (by kernel_rfl) (fun u w3 hC hd hI Q K hK => by (have hu := bis (w := w3) (hd 3 rfl); rw [hu] at hK ⊢; clear hu; have hu := bis (w := w3) (hd 6 rfl); rw [hu] at hK ⊢; clear hu; go_step; exact hK _ _ rfl ((Below.refl _ _).alloc (Nat.le_refl _) _) (litRF2_at _ _ _ _ _ _))), stT rfl (by decide) (by kernel_rfl) (fun u w3 hC hd hI Q K hK => by (obtain ⟨B, hu, hB⟩ := hd 0 rfl; rw [hu] at hK ⊢; clear hu; have h7 := hd 7 rfl; generalize u 7 = z7 at *; obtain ⟨v9, w10, hr9, ho9, hb9⟩ := run_append_copy (sz := 2) (enc := RF.enc) (by omega) (fun _ => rfl) (P := Tryz.prog) 23 23 81 i0 _ 32 Tryz.underlying23 hi hy0 hy1 hy2 rfl _ hB hC.size h7 (by simp); refine wp_append_run _ _ 23 rfl rfl rfl hr9 ?_; exact hK _ _ rfl hb9 ho9)), stT rfl (by decide) (by kernel_rfl) (fun u w3 hC hd hI Q K hK => by (rw [show u 12 = .slice (some ⟨b, o, none⟩) n bc from hI 12 _ rfl (by kernel_rfl)] at hK ⊢; go_step; exact hK _ _ rfl (Below.refl _ _) rfl)), stT rfl (by decide) (by kernel_rfl) (fun u w3 hC hd hI Q K hK => by (have hu := bis (w := w3) (hd 9 rfl); rw [hu] at hK ⊢; clear hu; refine wp_slice_from rfl Tryz.underlying23 hi hy1 rfl rfl hn2 ?_; exact hK _ _ rfl (Below.refl _ _) rfl)), stTt rfl (by decide) (fun u w3 hC hd Q K hK => by (dsimp only at hK ⊢; have h8 := hd 8 rfl; generalize u 8 = z8 at *; have hu := bis (w := w3) (hd 10 rfl); rw [hu] at hK ⊢; clear hu; obtain ⟨v11, w11, hr11, hG11, hb11⟩ := ft_tail 23 hC h8 HL2.out HFL.out hn2 hlow HTL.out; refine wp_append_run _ _ 23 rfl rfl rfl hr11 ?_; refine hK _ _ rfl (fun j hj h => ?_) ?_; (match j, hj, h with | 0, _, _ => exact trivial | 1, _, h => exact h | 2, _, h => exact h | 3, _, h => exact h | 4, _, h => exact h | 5, _, h => exact h | 6, _, h => exact h | 7, _, _ => exact trivial | 8, _, _ => exact trivial | 9, _, h => exact h | 10, _, _ => exact trivial | j + 11, hj, _ => exact absurd hj (by omega)); exact ⟨hG11, hb11⟩)), stTb rfl (by decide) (by kernel_rfl) (fun u w3 hd Q K hK => by (dsimp only at hK ⊢; have h11 := hd 11 rfl; generalize u 11 = z11 at *; go_step; exact hK _ rfl h11)), trivial⟩); intro u w9 hF; rw [bis (w := w9) (hF 1 (by decide))]; rw [bis (w := w9) (hF 2 (by decide))]; rw [bis (w := w9) (hF 3 (by decide))]; rw [bis (w := w9) (hF 4 (by decide))]; rw [bis (w := w9) (hF 5 (by decide))]; rw [bis (w := w9) (hF 6 (by decide))]; rw [bis (w := w9) (hF 9 (by decide))]; have h9 := hF 12 (by decide); generalize u 12 = v9 at *; generalize u 0 = vx0 at *; generalize u 7 = vx7 at *; generalize u 8 = vx8 at *; generalize u 10 = vx10 at *; generalize u 11 = vx11 at *; clear hF
      obtain ⟨hG9, hb9⟩ := h9
      have hGL : ([g, f] ++ fs.drop 2).length = n := by rw [List.length_append, List.length_drop, HN.out]; simp; omega
      obtain ⟨G, hG⟩ : ∃ G, [g, f] ++ fs.drop 2 = G := ⟨_, rfl⟩
      rw [hG] at hG9 hGL HTW
      have HG9 := Lib.hid hG9
      have HO9 := Lib.hid (HO4.out.below hb9)
      have hr9 := hr4.below hb9
      have hM9 := hM4.trans (Mv.of_below (hb9.mono hzw))
      obtain ⟨ca, cc, rfl, -, -⟩ := hG9.form
      rw [hGL] at HG9 ⊢
      clear hG9 hb9 hG c0 c1 d0 d1
      go_wp2_with fail
      refine (odd_any R bs _ _ _ hr9 (by omega) (by omega) (by omega)).mono ?_
      rintro e w5 ⟨x5, q5, rfl, hr5, hq5, hm5⟩
      have HO5 := Lib.hid (HO9.out.mv hm5 hR)
      have HF5 := Lib.hid ((HG9.out.mv hm5 hRlo).mono (Nat.zero_le _))
      have hM5 := hM9.trans (hm5.mono hM9.size)
      clear hr5 hm5
      obtain ⟨c, hc⟩ : ∃ c, (r != x5) = c := ⟨_, rfl⟩
      go_wp2_with fail
      exact bodyPost_ret (v := .tuple #[.slice sa n cap, .bool r, .slice ca n cc, .bool (r != x5)]) (by simp [results, Tryz.results18, go_sem] <;> (cases r <;> cases x5 <;> rfl)) rfl ⟨_, _, fs, G, r, _, rfl, HO5.out, by rw [HN.out]; exact hl1, HKK.out, HF5.out, by rw [hGL]; exact hl1, HTW.out, hM5⟩
end Go.Proofs.YtajcogpfmpehkaaGreatDoor
