/- The law FnSwapFlats: the walk; the program's FlatBoxes. -/
import Derived.Test.YthflbpoogolebaaDoorDt
import Derived.Test.YthflbpoogolebaaDoorFtW
import Derived.Deep.AppendLies
import Derived.Deep.RegionLaw
import Derived.Test.YthflbpoogolebaaDoorDx
import Derived.Test.YthflbpoogolebaaDoorDxJ
import Derived.Test.YthflbpoogolebaaDoorTiP
import Derived.Test.YthflbpoogolebaaDoorAlive
namespace Go.Proofs.YthflbpoogolebaaDoor
open Go.RowKit
structure R4 where
  v0 : Value
  v1 : Value
  v2 : Value
  v3 : Value
abbrev R4.enc (r : R4) : List Value := [r.v0, r.v1, r.v2, r.v3]
def R4.ok (lo : Nat) (w : World) (r : R4) (b : Bx) : Prop := All2 (Sps lo w) [r.v0, r.v1, r.v2, r.v3] b
def Iss (lo : Nat) (w : World) (v : Value) (bs : List Bx) : Prop := ∃ rs, SlFr lo 4 R4.enc w v rs ∧ All2 (R4.ok lo w) rs bs
theorem Iss.below {lo : Nat} {w w' : World} {v : Value} {bs : List Bx} (h : Iss lo w v bs) (hb : Below w.heap.size w w') : Iss lo w' v bs :=
  let ⟨rs, h1, h2⟩ := h
  ⟨rs, h1.below hb, h2.mono (fun _ _ h => (h.mono (fun _ _ h => h.below hb) : All2 _ _ _))⟩
theorem Iss.form {lo : Nat} {w : World} {v : Value} {bs : List Bx} (h : Iss lo w v bs) : ∃ a cap, v = .slice a bs.length cap ∧ bs.length ≤ cap ∧ cap ≤ maxLen := by
  obtain ⟨rs, ⟨a, cap, rfl, h1, h2, _⟩, h3⟩ := h
  exact ⟨a, cap, by rw [h3.1], by rw [← h3.1]; exact h1, h2⟩
theorem Iss.at {lo : Nat} {w : World} {a : Option Addr} {n cap : Nat} {bs : List Bx} (h : Iss lo w (.slice a n cap) bs) {k : Nat} {f : Bx} (hk : bs[k]? = some f) :
    ∃ b o v0 v1 v2 v3, a = some ⟨b, o, none⟩ ∧ b < w.heap.size ∧ w.cell? ⟨b, o + k * 4, none⟩ = some v0 ∧ w.cell? ⟨b, o + k * 4 + 1, none⟩ = some v1 ∧ w.cell? ⟨b, o + k * 4 + 2, none⟩ = some v2 ∧ w.cell? ⟨b, o + k * 4 + 3, none⟩ = some v3 ∧ All2 (Sps lo w) [v0, v1, v2, v3] f := by
  obtain ⟨rs, ⟨a', cap', he, _, _, hx⟩, h2⟩ := h
  obtain ⟨rfl, _, _⟩ := Value.slice.inj he
  obtain ⟨r, hr, hs⟩ := h2.left hk
  obtain ⟨b, o, ha, _, hb, hc⟩ := hx k r hr
  exact ⟨b, o, r.v0, r.v1, r.v2, r.v3, ha, hb, by simpa using hc 0 _ rfl, hc 1 _ rfl, hc 2 _ rfl, hc 3 _ rfl, hs⟩
theorem infoSd : (Tryd.prog.info? 50).map (fun i => (i.zero, i.size, i.bytes)) = some (some (.agg #[.slice none 0 0, .slice none 0 0, .slice none 0 0, .slice none 0 0]), 4, 96) := by kernel_rfl
theorem infoBx : (Tryd.prog.info? 56).map (fun i => (i.zero, i.size, i.bytes)) = some (some (.agg #[.slice none 0 0]), 1, 24) := by kernel_rfl
def fboxes (fs : List Ft) : List Bx := fs.map Ft.box
theorem fboxes_get {fs : List Ft} {k : Nat} {f : Ft} (h : fs[k]? = some f) : (fboxes fs)[k]? = some f.box := by simp [fboxes, h]
set_option maxHeartbeats 2000000 in
set_option maxRecDepth 100000 in
theorem wheres_any {lo : Nat} (fs : List Ft) (v : Value) (w : World) (hs : Ifs lo w v fs) (hl : fs.length ≤ 1000000) :
    Calls Tryd.prog 32 #[v] w fun e w' => ∃ v', e = .returned v' ∧ Iss 0 w' v' (fboxes fs) ∧ Below w.heap.size w w' := by
  obtain ⟨a, cap, rfl, hlc, hcm⟩ := hs.form
  unfold maxLen at hcm
  generalize hn : fs.length = n at *
  have HN := Lib.hid hn
  have HS := Lib.hid hs
  obtain ⟨i0, hi, hy0, hy1, hy2⟩ := info_parts infoSd
  clear hn hs
  go_enter Tryd.func32, Tryd.ntmps32
  go_wp2_with (at_make; refine wpList_make_own _ rfl _ _ 64 rfl w.heap.size 50 i0 _ 4 Tryd.underlying64 hi hy0 hy1 _ _ _ n rfl rfl rfl ?b1 ?b2 ?b3 ?_)
  case b1 => rw [hy2]; omega
  case b2 => simp only [maxLen]; omega
  case b3 => omega
  intro w1 hown1 hgrow1
  have hb1 : Below w.heap.size w w1 := (Below.refl _ _).grown hgrow1 (Nat.le_refl _) (fun k hk => by cases hk)
  have HO1 := Lib.hid (show OwnSl w.heap.size 50 4 R4.enc w1 (.slice (some ⟨w.heap.size, 0, none⟩) 0 n) ([] : List R4) by simpa [OwnSl] using hown1)
  clear hown1 hgrow1
  go_wp2_with fail
  go_loopw [3, 5, 11] (fun o _ i wr => ∃ (k : Nat) (rs : List R4), k ≤ n ∧ i = .int .i64 k ∧ OwnSl w.heap.size 50 4 R4.enc wr o rs ∧ Hid (All2 (R4.ok lo w) rs ((fboxes fs).take k)) ∧ Below w.heap.size w wr) (fun _ _ i _ => n - (intOf i).toNat)
  case atStart => exact ⟨0, [], by omega, rfl, HO1.out, Lib.hid (by simpa using All2.nil), hb1⟩
  case round =>
    obtain ⟨k, rs, hk, rfl, hO, HR, hbr⟩ := hrel
    have HO := Lib.hid hO
    clear hO HO1 hb1
    have hzr := hbr.size
    by_cases hlt : k < n
    · have i1 : (k : Int) < (n : Int) := by omega
      have i2 : (0 : Int) ≤ (k : Int) := by omega
      obtain ⟨f, hx⟩ : ∃ f, fs[k]? = some f := ⟨_, List.getElem?_eq_getElem (by rw [HN.out]; exact hlt)⟩
      obtain ⟨b, o, v0, v1, v2, v3, rfl, hbl, c0, c1, c2, c3, c4, hss⟩ := HS.out.at hx
      replace c0 := (hbr.cell (p := ⟨b, o + k * 5, none⟩) hbl).trans c0
      replace c1 := (hbr.cell (p := ⟨b, o + k * 5 + 1, none⟩) hbl).trans c1
      replace c2 := (hbr.cell (p := ⟨b, o + k * 5 + 2, none⟩) hbl).trans c2
      replace c3 := (hbr.cell (p := ⟨b, o + k * 5 + 3, none⟩) hbl).trans c3
      replace c4 := (hbr.cell (p := ⟨b, o + k * 5 + 4, none⟩) hbl).trans c4
      replace hbl := Nat.lt_of_lt_of_le hbl hzr
      obtain ⟨a0, n0, p0, a1, n1, p1, a2, n2, p2, a3, n3, p3, rfl, rfl, rfl, rfl⟩ := sl4_form hss
      have HXX := Lib.hid (fboxes_get hx)
      have HSS := Lib.hid hss
      have HBD := Lib.hid (show rs.length ≤ 1000000 by have := HR.out.1; rw [List.length_take] at this; omega)
      clear hx hss
      go_wp2_with (at_builtin; refine wpList_append_own _ rfl _ _ 64 rfl w.heap.size 50 i0 _ 4 96 Tryd.underlying64 hi hy0 hy1 hy2 rfl (by decide) _ _ _ rfl (World.ownsRow.alloc (World.ownsRow.alloc HO.out _) _) ⟨wr.heap.size + 1, 0, none⟩ 1 1 (R4.enc ⟨.slice a0 n0 p0, .slice a1 n1 p1, .slice a2 n2 p2, .slice a3 n3 p3⟩) rfl rfl (cellsNew2 wr _ _ (R4.enc ⟨.slice a0 n0 p0, .slice a1 n1 p1, .slice a2 n2 p2, .slice a3 n3 p3⟩) _) ?c2 ?c3 ?c4 ?c5 ?_)
      case c2 => simp [Value.oneCell']
      case c3 => have := HBD.out; simp only [maxLen]; omega
      case c4 => have := HBD.out; omega
      case c5 => simp; omega
      intro v' w5 hown5 hgrow5 _
      have hB := belGrown ((hbr.alloc hzr _).alloc (by simp; omega) _) (World.ownsRow.alloc (World.ownsRow.alloc HO.out _) _) hgrow5 (by simp; omega)
      have HO6 := Lib.hid (OwnSl.pushed rfl hown5)
      have HR6 := Lib.hid (show All2 (R4.ok lo w) (rs ++ [⟨.slice a0 n0 p0, .slice a1 n1 p1, .slice a2 n2 p2, .slice a3 n3 p3⟩]) ((fboxes fs).take (k + 1)) by
        rw [List.take_add_one, HXX.out]
        exact All2.snoc HR.out HSS.out)
      clear hown5 hgrow5
      go_wp2
      go_roundw
      case rel => exact ⟨k + 1, _, by omega, by go_num, HO6.out, HR6, hB⟩
      case measure => simp [intOf]; omega
    · have hkn : k = n := by omega
      go_wp2
      go_ret
      have hR := HR.out
      rw [List.take_of_length_le (by simp [fboxes, HN.out]; omega)] at hR
      exact ⟨u3, rfl, ⟨rs, OwnSl.fr (sz := 4) (enc := R4.enc) (fun _ => rfl) (OwnSl.mono HO.out (Nat.zero_le _)), hR.mono (fun r b h => (All2.mono h (fun _ _ h => (h.below hbr).mono (Nat.zero_le _)) : All2 _ _ _))⟩, hbr⟩
/-- Boxes in a list of the call's own. -/
def BsO (lo : Nat) (w : World) (v : Value) (bs : List Bx) : Prop :=
  ∃ vs, OwnSl lo 56 1 enc1 w v vs ∧ All2 (fun r b => Rws lo (hole w v.ownBlock) r b) vs bs
theorem BsO.bxs {lo : Nat} {w : World} {v : Value} {bs : List Bx} (h : BsO lo w v bs) : Bxs lo w v bs :=
  let ⟨vs, h1, h2⟩ := h
  ⟨vs, OwnSl.fr (sz := 1) (enc := enc1) (fun _ => rfl) h1, h2.mono (fun _ _ h => h.sub (Sb.out _ _ _))⟩
theorem BsO.push {lo : Nat} {w w2 : World} {v v' : Value} {bs : List Bx} {vs : List Value} {r : Value} {b : Bx} {H : Nat} (h1 : All2 (fun r b => Rws lo (hole w v.ownBlock) r b) vs bs)
    (hr : Rws lo (hole w v.ownBlock) r b) (hg : w.heap.size ≤ w2.heap.size ∧ ∀ k, k < w.heap.size → some k ≠ v.ownBlock → w2.heap[k]? = w.heap[k]?)
    (hown : OwnSl lo 56 1 enc1 w2 v' (vs ++ [r])) (hat : ∀ z, v'.ownBlock = some z → v.ownBlock = some z ∨ z = H) (hH : w.heap.size ≤ H) : BsO lo w2 v' (bs ++ [b]) := by
  have hsb : Sb lo (hole w v.ownBlock) (hole w2 v'.ownBlock) := Sb.hole hg.1 (fun k _ k2 k3 => ⟨fun e => by
    rcases hat k e.symm with h | h
    · exact k3 h.symm
    · omega, hg.2 k k2 k3⟩)
  exact ⟨vs ++ [r], hown, (h1.mono (fun _ _ h => h.sub hsb)).snoc (hr.sub hsb)⟩
set_option maxHeartbeats 2000000 in
set_option maxRecDepth 100000 in
theorem boxesOf_any {lo : Nat} (bs : List Bx) (v : Value) (w : World) (hs : Iss lo w v bs) (hl : bs.length ≤ 1000000) (hle : ∀ (k : Nat) b, bs[k]? = some b → ∀ (j : Nat) xs, b[j]? = some xs → xs.length ≤ 1000000) :
    Calls Tryd.prog 31 #[v] w fun e w' => ∃ v', e = .returned v' ∧ BsO w.heap.size w' v' bs ∧ Below w.heap.size w w' := by
  obtain ⟨a, cap, rfl, hlc, hcm⟩ := hs.form
  unfold maxLen at hcm
  generalize hn : bs.length = n at *
  have HN := Lib.hid hn
  have HS := Lib.hid hs
  obtain ⟨i0, hi, hy0, hy1, hy2⟩ := info_parts infoBx
  clear hn hs
  go_enter Tryd.func31, Tryd.ntmps31
  go_wp2_with (at_make; refine wpList_make_own _ rfl _ _ 33 rfl w.heap.size 56 i0 _ 1 Tryd.underlying33 hi hy0 hy1 _ _ _ n rfl rfl rfl ?b1 ?b2 ?b3 ?_)
  case b1 => rw [hy2]; omega
  case b2 => simp only [maxLen]; omega
  case b3 => omega
  intro w1 hown1 hgrow1
  have hb1 : Below w.heap.size w w1 := (Below.refl _ _).grown hgrow1 (Nat.le_refl _) (fun k hk => by cases hk)
  have HO1 := Lib.hid (show BsO w.heap.size w1 (.slice (some ⟨w.heap.size, 0, none⟩) 0 n) [] from ⟨[], by simpa [OwnSl] using hown1, All2.nil⟩)
  clear hown1 hgrow1
  go_wp2_with fail
  go_loopw [3, 5, 11] (fun o _ i wr => ∃ (k : Nat), k ≤ n ∧ i = .int .i64 k ∧ Hid (BsO w.heap.size wr o (bs.take k)) ∧ Below w.heap.size w wr) (fun _ _ i _ => n - (intOf i).toNat)
  case atStart => exact ⟨0, by omega, rfl, HO1, hb1⟩
  case round =>
    obtain ⟨k, hk, rfl, HO, hbr⟩ := hrel
    clear HO1 hb1
    have hzr := hbr.size
    by_cases hlt : k < n
    · have i1 : (k : Int) < (n : Int) := by omega
      have i2 : (0 : Int) ≤ (k : Int) := by omega
      obtain ⟨f, hx⟩ : ∃ f, bs[k]? = some f := ⟨_, List.getElem?_eq_getElem (by rw [HN.out]; exact hlt)⟩
      obtain ⟨b, o, v0, v1, v2, v3, rfl, hbl, c0, c1, c2, c3, hss⟩ := (HS.out.below hbr).at hx
      obtain ⟨a0, n0, p0, a1, n1, p1, a2, n2, p2, a3, n3, p3, rfl, rfl, rfl, rfl⟩ := sl4_form hss
      have HXX := Lib.hid hx
      have HSS := Lib.hid hss
      have HLF := Lib.hid (hle k f hx)
      obtain ⟨vs, hvs, hal⟩ := HO.out
      obtain ⟨ua, uc, hu, -, -⟩ : ∃ a c, u3 = .slice a vs.length c ∧ True ∧ True := by
        rcases OwnSl.form hvs with ⟨h, h'⟩ | ⟨g, c, h, _⟩
        · exact ⟨_, _, by rw [h, h']; rfl, trivial, trivial⟩
        · exact ⟨_, _, h, trivial, trivial⟩
      subst hu
      have hown : ∀ z, (Value.slice ua vs.length uc).ownBlock = some z → w.heap.size ≤ z ∧ z < wr.heap.size := fun z hz => World.ownsRow.lt hvs z hz
      have HVS := Lib.hid hvs
      have HAL := Lib.hid hal
      have HBD := Lib.hid (show vs.length ≤ 1000000 by have := hal.1; rw [List.length_take] at this; omega)
      clear hx hss hvs hal
      have hal4 : Below wr.heap.size wr (wr.alloc (.cells #[.slice a0 n0 p0, .slice a1 n1 p1, .slice a2 n2 p2, .slice a3 n3 p3] 50)) := (Below.refl _ _).alloc (Nat.le_refl _) _
      go_wp2_with fail
      refine (box_any f _ _ _ _ wr _ HSS.out hal4 HLF.out).mono ?_
      rintro e w4 ⟨v4, rfl, ho4, hb4⟩
      have hw4 : Below wr.heap.size wr w4 := hal4.trans (hb4.mono hal4.size)
      have hz4 := hw4.size
      have hr4 := ho4.g.rws
      simp only [World.size_alloc] at hr4
      obtain ⟨va4, vc4, rfl, -, -⟩ := hr4.form
      have HR4 := Lib.hid (show Rws w.heap.size (hole w4 (Value.slice ua vs.length uc).ownBlock) _ f from Rws.mono (hr4.sub (Sb.into (fun z hz => by have := (hown z hz).2; omega))) (by omega))
      have HVS4 := Lib.hid (OwnSl.kept HVS.out hw4)
      have HAL4 := Lib.hid (HAL.out.mono (fun _ _ h => h.sub (Sb.hole hz4 (fun j _ j2 j3 => ⟨j3, hw4.block j j2⟩))))
      clear ho4 hb4 hr4
      go_wp2_with (at_builtin; refine wpList_append_lies _ rfl _ _ 33 rfl w.heap.size 56 i0 _ 1 24 Tryd.underlying33 hi hy0 hy1 hy2 rfl (by decide) _ vs.length (vs.flatMap enc1) rfl (World.ownsRow.alloc HVS4.out _) ⟨w4.heap.size, 0, none⟩ 1 1 (enc1 (.slice va4 f.length vc4)) rfl rfl (cellsNew w4 (enc1 (.slice va4 f.length vc4)) _) ?c2 (by decide) ?c3 ?c4 ?c5 _ rfl ?_)
      case c2 => simp [Value.oneCell']
      case c3 => have := HBD.out; simp only [maxLen]; omega
      case c4 => have := HBD.out; omega
      case c5 => simp; omega
      intro g8 cap8 w8 hown8 hgrow8 hlies8 hlt8
      have hown9 : OwnSl w.heap.size 56 1 enc1 w8 (.slice (some ⟨g8, 0, none⟩) (vs.length + 1) cap8) (vs ++ [.slice va4 f.length vc4]) := by unfold OwnSl; simpa using hown8
      have hF8 : BsO w.heap.size w8 (.slice (some ⟨g8, 0, none⟩) (vs.length + 1) cap8) (bs.take k ++ [f]) :=
        BsO.push (w := w4) (H := w4.heap.size + 1) HAL4.out HR4.out (grown_old hgrow8) hown9 (fun z hz => by cases hz; simpa using hlies8) (by omega)
      have hB8 : Below w.heap.size w w8 := belGrown ((hbr.trans (hw4.mono hzr)).alloc (by omega) _) (World.ownsRow.alloc HVS4.out _) hgrow8 (by simp; omega)
      have HF8 := Lib.hid (show BsO w.heap.size w8 (.slice (some ⟨g8, 0, none⟩) (vs.length + 1) cap8) (bs.take (k + 1)) by rw [List.take_add_one, HXX.out]; exact hF8)
      clear hown8 hgrow8 hlies8 hlt8 hown9 hF8
      go_wp2
      go_roundw
      case rel => exact ⟨k + 1, by omega, by go_num, HF8, hB8⟩
      case measure => simp [intOf]; omega
    · have hkn : k = n := by omega
      go_wp2
      go_ret
      have hR := HO.out
      rw [List.take_of_length_le (by rw [HN.out]; omega)] at hR
      exact ⟨_, rfl, hR, hbr⟩
def fbx (fs : List Ft) : List Bx := if fvalid fs then fboxes fs else []
set_option maxHeartbeats 1000000 in
theorem implFB_any {lo : Nat} (fs : List Ft) (v : Value) (w : World) (hs : Fts lo w v fs) (ht : Tab w) :
    Calls Tryd.prog 12 #[v] w fun e w' => ∃ v', e = .returned v' ∧ Bxs 0 w' v' (fbx fs) ∧ Below w.heap.size w w' := by
  cases hv : fvalid fs
  · go_enter Tryd.func12, Tryd.ntmps12
    go_wp2_with fail
    refine (implFV_b hs ht hv).mono ?_
    rintro e w1 ⟨rfl, hb1⟩
    go_wp2
    go_ret
    refine ⟨_, rfl, ?_, hb1⟩
    rw [fbx, hv]
    exact ⟨[], ⟨none, 0, rfl, by simp, by simp, fun k x h => by simp at h⟩, All2.nil⟩
  · have HV := Lib.hid hv
    go_enter Tryd.func12, Tryd.ntmps12
    go_wp2_with fail
    refine (implFV_b hs ht hv).mono ?_
    rintro e w1 ⟨rfl, hb1⟩
    have hs1 := hs.below hb1
    go_wp2_with fail
    refine (flatsOf_any fs v _ hs1 (fvalid_four HV.out) (fvalid_len HV.out)).mono ?_
    rintro e w2 ⟨v2, rfl, ho2, hb2⟩
    have hw2 := hb1.trans (hb2.mono hb1.size)
    clear hb2
    go_wp2_with fail
    refine (wheres_any fs _ _ ho2 (fvalid_len HV.out)).mono ?_
    rintro e w3 ⟨v3, rfl, ho3, hb3⟩
    have hw3 := hw2.trans (hb3.mono hw2.size)
    clear hb3
    go_wp2_with fail
    refine (boxesOf_any (fboxes fs) _ _ ho3 (by have := fvalid_len HV.out; simp [fboxes]; omega) (fun k b hb j xs hx => ?_)).mono ?_
    · simp only [fboxes, List.getElem?_map, Option.map_eq_some_iff] at hb
      obtain ⟨f, hf, rfl⟩ := hb
      have := bvalid_lens (fvalid_at HV.out hf) j xs hx
      omega
    · rintro e w4 ⟨v4, rfl, ho4, hb4⟩
      have hw4 := hw3.trans (hb4.mono hw3.size)
      have HO4 := Lib.hid ho4
      clear ho4
      go_wp2
      go_ret
      refine ⟨_, rfl, ?_, hw4⟩
      rw [fbx, HV.out]
      obtain ⟨vs, g1, g2⟩ := HO4.out.bxs
      exact ⟨vs, SlFr.mono g1 (Nat.zero_le _), g2.mono (fun _ _ h => h.mono (Nat.zero_le _))⟩
theorem jw_swap : ∀ (fs : List Ft) (k : Nat) (r : Bool) (p : Pk) (f g : Ft), fs[k]? = some f → fs[k + 1]? = some g → (bhas f.box p = true → bhas g.box p = true → f.acc = g.acc) → jw (swapAt fs k) r p = jw fs r p
  | [], k, r, p, f, g, h1, h2, h => by simp at h1
  | [x], k, r, p, f, g, h1, h2, h => by simp at h2
  | x :: y :: fs, 0, r, p, f, g, h1, h2, h => by
    simp at h1 h2
    subst h1 h2
    show jw (y :: x :: fs) r p = jw (x :: y :: fs) r p
    unfold jw
    unfold jw
    cases e1 : bhas x.box p <;> cases e2 : bhas y.box p <;> simp
    exact (h e1 e2).symm
  | x :: y :: fs, k + 1, r, p, f, g, h1, h2, h => by
    have h1' : (y :: fs)[k]? = some f := by simpa using h1
    have h2' : (y :: fs)[k + 1]? = some g := by simpa using h2
    have e : swapAt (x :: y :: fs) (k + 1) = x :: swapAt (y :: fs) k := by
      rw [swapAt_of h1 h2, swapAt_of h1' h2']
      rfl
    rw [e]
    conv => lhs; unfold jw
    conv => rhs; unfold jw
    rw [jw_swap (y :: fs) k r p f g h1' h2' h]
theorem sumTo_bound {α : Type} {f : α → Nat} {xs : List α} {C : Nat} (h : ∀ (k : Nat) x, xs[k]? = some x → f x ≤ C) : ∀ n, sumTo f xs n ≤ n * C
  | 0 => by simp [sumTo_zero]
  | n + 1 => by
    have ih := sumTo_bound (f := f) h n
    rw [Nat.add_mul]
    cases hx : xs[n]? with
    | none =>
      have e : sumTo f xs (n + 1) = sumTo f xs n := by
        have := List.getElem?_eq_none_iff.1 hx
        unfold sumTo
        rw [List.take_of_length_le this, List.take_of_length_le (by omega)]
      omega
    | some x =>
      have := h n x hx
      rw [sumTo_succ hx]
      omega
/-- Drawn rules are not large. -/
theorem drawn_ftN {fs : List Ft} (hl : fs.length ≤ 61) (hk : FtOk (fun n => n ≤ 4) fs) : ftN fs ≤ 1048576 := by
  have h1 : ∀ (k : Nat) f, fs[k]? = some f → bxN f.box ≤ 164 := fun k f hf => by
    obtain ⟨h4, h40⟩ := hk k f hf
    have := sumTo_bound (f := List.length) (xs := f.box) (C := 40) (fun j xs hx => h40 j xs hx) f.box.length
    have h5 : f.box.length * 40 ≤ 4 * 40 := Nat.mul_le_mul_right _ h4
    unfold bxN
    omega
  have := sumTo_bound (f := fun f => bxN f.box) (xs := fs) (C := 164) h1 fs.length
  have h5 : fs.length * 164 ≤ 61 * 164 := Nat.mul_le_mul_right _ hl
  unfold ftN
  omega
theorem swapAt_fvalid {fs : List Ft} (h : fvalid fs = true) (k : Nat) : fvalid (swapAt fs k) = true :=
  fvalid_sub h (by rw [swapAt_len]; exact Nat.le_refl _) (fun g hg => swapAt_mem hg)
theorem swap_back {fs : List Ft} {k : Nat} (h : cansw fs (k : Int) = true) : cansw (swapAt fs k) (k : Int) = true ∧ swapAt (swapAt fs k) k = fs := by
  obtain ⟨hv, h0, h1⟩ := cansw_range h
  obtain ⟨f, hf⟩ : ∃ f, fs[k]? = some f := ⟨_, List.getElem?_eq_getElem (by omega)⟩
  obtain ⟨g, hg⟩ : ∃ g, fs[k + 1]? = some g := ⟨_, List.getElem?_eq_getElem (by omega)⟩
  have e := swapAt_of hf hg
  have e1 : (swapAt fs k)[k]? = some g := by rw [e, List.getElem?_set_ne (by omega), List.getElem?_set_self (by omega)]
  have e2 : (swapAt fs k)[k + 1]? = some f := by rw [e, List.getElem?_set_self (by simp; omega)]
  refine ⟨?_, ?_⟩
  · unfold cansw at h ⊢
    simp only [Bool.and_eq_true, Bool.not_eq_true', Int.toNat_natCast] at h ⊢
    rw [tiedAt_of hf hg] at h
    rw [tiedAt_of e1 e2, tiedB_symm, swapAt_len]
    exact ⟨⟨swapAt_fvalid hv k, h.1.2⟩, h.2⟩
  · rw [swapAt_of e1 e2, e]
    refine List.ext_getElem? (fun j => ?_)
    by_cases j1 : j = k + 1
    · subst j1
      rw [List.getElem?_set_self (by simp; omega), hg]
    · rw [List.getElem?_set_ne (by omega)]
      by_cases j2 : j = k
      · subst j2
        rw [List.getElem?_set_self (by simp; omega), hf]
      · rw [List.getElem?_set_ne (by omega), List.getElem?_set_ne (by omega), List.getElem?_set_ne (by omega)]
theorem jfl_swap {fs : List Ft} {k : Nat} (h : cansw fs (k : Int) = true) (r : Bool) (p : Pk) : jfl (swapAt fs k) r p = jfl fs r p := by
  obtain ⟨hv, h0, h1⟩ := cansw_range h
  obtain ⟨f, hf⟩ : ∃ f, fs[k]? = some f := ⟨_, List.getElem?_eq_getElem (by omega)⟩
  obtain ⟨g, hg⟩ : ∃ g, fs[k + 1]? = some g := ⟨_, List.getElem?_eq_getElem (by omega)⟩
  have ht : tiedB f g = false := by
    unfold cansw at h
    simp only [Bool.and_eq_true, Bool.not_eq_true', Int.toNat_natCast] at h
    rw [tiedAt_of hf hg] at h
    exact h.2
  unfold jfl
  rw [swapAt_fvalid hv, hv, jw_swap fs k r p f g hf hg (tied_no (bvalid_four (fvalid_at hv hf)).1 (bvalid_four (fvalid_at hv hg)).1 ht p)]
set_option maxHeartbeats 1000000 in
theorem drawSW_any (bs : List Int) (v : Value) (w : World) (h : CodeAt w v bs) : Calls Tryd.prog 6 #[v] w (DrewLP w) := by
  go_enter Tryd.func6, Tryd.ntmps6
  go_wp2_with fail
  refine (drawLP_any bs _ _ h).mono ?_
  rintro e w1 ⟨v1, fs, n, rfl, h1, h2, h3⟩
  go_wp2
  go_ret2
  exact ⟨_, fs, n, rfl, h1, h2, h3⟩
set_option maxHeartbeats 4000000 in
set_option maxRecDepth 100000 in
theorem law_FnSwapFlats (bs bs2 : List Int) (v v2 : Value) (w : World) (h : CodeAt w v bs) (h2 : CodeAt w v2 bs2) (ht : Tab w) :
    Calls Tryd.prog 3 #[v, v2] w fun e w' => e = .returned (.bool true) ∧ Below w.heap.size w w' := by
  obtain ⟨a, cap, rfl, l1, l2, -⟩ := code_cells h
  obtain ⟨a2, cap2, rfl, m1, m2, -⟩ := code_cells h2
  unfold maxLen at l2 m2
  by_cases hl : 1048576 < bs.length
  · go_enter Tryd.func3, Tryd.ntmps3
    go_wp2
    go_ret
    exact ⟨rfl, by (repeat' (first | with_reducible exact Below.refl _ _ | with_reducible assumption | with_reducible refine Below.setCell ?_ ?_ _ | with_reducible refine Below.alloc ?_ ?_ _ | with_reducible refine Below.drew ?_ | with_reducible refine belDrewN ?_ _ | with_reducible refine Below.trans ?_ (Below.mono (by assumption) ?_) | omega | (simp; omega) | (simp; done)))⟩
  · by_cases hl2 : 1048576 < bs2.length
    · go_enter Tryd.func3, Tryd.ntmps3
      go_wp2
      go_ret
      exact ⟨rfl, by (repeat' (first | with_reducible exact Below.refl _ _ | with_reducible assumption | with_reducible refine Below.setCell ?_ ?_ _ | with_reducible refine Below.alloc ?_ ?_ _ | with_reducible refine Below.drew ?_ | with_reducible refine belDrewN ?_ _ | with_reducible refine Below.trans ?_ (Below.mono (by assumption) ?_) | omega | (simp; omega) | (simp; done)))⟩
    · have hsd : bs2.length ≤ 1048576 := by omega
      generalize bs2.length = sd at *
      go_enter Tryd.func3, Tryd.ntmps3
      go_wp2_with fail
      refine (drawSW_any _ _ _ h).mono ?_
      rintro e w0 ⟨v0, fs, n, rfl, ⟨ho, hlen, hok, hb0⟩, hn0, hn1⟩
      have hs0 : Fts 0 w0 v0 fs := ho.fts.mono (Nat.zero_le _)
      have ht0 := ht.below hb0
      obtain ⟨sa, sc, rfl, hlc, hcm⟩ := hs0.form
      unfold maxLen at hcm
      obtain ⟨q, hq⟩ : ∃ q, cansw fs n = q := ⟨_, rfl⟩
      obtain ⟨L, hL⟩ : ∃ L, swfl fs n = L := ⟨_, rfl⟩
      have hqq : (q != q) = false := by cases q <;> rfl
      go_wp2_with fail
      refine (implSwapFlats_e hs0 ht0 hL hq).mono ?_
      rintro e w1 ⟨v1, rfl, ho1, hb1⟩
      have hs1 := hs0.below hb1
      have hx1 := ho1.fts
      have hw1 := hb0.trans (hb1.mono hb0.size)
      obtain ⟨xa, xc, rfl, hxc, hxm⟩ := hx1.form
      unfold maxLen at hxm
      go_wp2_with fail
      refine (specSwapFlats_e hs1 (drawn_ftN hlen hok) hL hq).mono ?_
      rintro e w2 ⟨v2', rfl, hy2, hb2⟩
      have hs2 := hs1.below hb2
      have hx2 := hx1.below hb2
      have hw2 := hw1.trans (hb2.mono hw1.size)
      obtain ⟨ya, yc, rfl, hyc, hym⟩ := hy2.form
      unfold maxLen at hym
      clear hb1 hb2 hs1 hx1 ho1 ho hs0
      go_wp2_with fail
      refine (sameFlats_e hx2 hy2).mono ?_
      rintro e w3 ⟨rfl, hb3⟩
      have hs3 := hs2.below hb3
      have hx3 := hx2.below hb3
      have hw3 := hw2.trans (hb3.mono hw2.size)
      have ht3 := ht.below hw3
      clear hb3 hs2 hx2 hy2 ht0
      cases q
      · by_cases hm0 : L.length = 0
        · rw [hm0]
          go_wp2_with fail
          refine (alive_any _).mono ?_
          rintro e w4 ⟨rfl, hb4⟩
          have hw4 := hw3.trans (hb4.mono hw3.size)
          go_wp2
          go_ret
          exact ⟨rfl, hw4⟩
        · obtain rfl : fs = L := by
            cases hv : fvalid fs
            · rw [← hL, swfl, hv] at hm0; simp at hm0
            · rw [← hL, swfl, hv, hq]; rfl
          have hm0i : ((fs.length : Int) == 0) = false := by simpa using hm0
          have hxs := hx3
          go_wp2_with fail
          refine (sameFlats_e hxs hs3).mono ?_
          rintro e w4 ⟨rfl, hb4⟩
          have hw4 := hw3.trans (hb4.mono hw3.size)
          go_wp2_with fail
          refine (alive_any _).mono ?_
          rintro e w5 ⟨rfl, hb5⟩
          have hw5 := hw4.trans (hb5.mono hw4.size)
          go_wp2
          go_ret
          exact ⟨rfl, hw5⟩
      · obtain ⟨hv, g0, g1⟩ := cansw_range hq
        obtain ⟨k, rfl⟩ := Int.eq_ofNat_of_zero_le g0
        have hLs : swapAt fs k = L := by rw [← hL, swfl, hv, hq]; rfl
        obtain ⟨hq2, hbk⟩ := swap_back hq
        rw [hLs] at hq2 hbk
        have hLv : fvalid L = true := by rw [← hLs]; exact swapAt_fvalid hv k
        have hL2 : swfl L (k : Int) = fs := by rw [swfl, hLv, hq2]; exact hbk
        have hpb : ∀ (k' : Nat) b', (fbx fs)[k']? = some b' → b'.length ≤ 100 ∧ ∀ (j : Nat) xs, b'[j]? = some xs → xs.length ≤ 1000 := fun k' b' hb' => by
          rw [fbx, hv] at hb'
          simp only [if_true, fboxes, List.getElem?_map, Option.map_eq_some_iff] at hb'
          obtain ⟨f, hf, rfl⟩ := hb'
          exact ⟨by have := (hok k' f hf).1; omega, fun j xs hx => by have := (hok k' f hf).2 j xs hx; omega⟩
        have hpl : (fbx fs).length ≤ 100 := by
          rw [fbx, hv]; simp [fboxes]; omega
        obtain ⟨rb, hrb⟩ : ∃ rb : Bool, (((sd : Int) % 2) == 0) = rb := ⟨_, rfl⟩
        go_wp2_with fail
        refine (implFB_any fs _ _ hs3 ht3).mono ?_
        rintro e w4 ⟨v4, rfl, hx4, hb4⟩
        have hw4 := hw3.trans (hb4.mono hw3.size)
        go_wp2_with fail
        refine (probe_any (fbx fs) v4 sd _ hx4 hsd hpl hpb).mono ?_
        rintro e w5 ⟨⟨pa, pb, pc, pd⟩, rfl, hb5⟩
        have hw5 := hw4.trans (hb5.mono hw4.size)
        have hal6 : Below w5.heap.size w5 (w5.alloc (.cells #[.int .i64 pa, .int .i64 pb, .int .i64 pc, .int .i64 pd] 31)) := (Below.refl _ _).alloc (Nat.le_refl _) _
        have hbx := Box4.new w5 pa pb pc pd 31
        have hw9 := hw5.trans (hal6.mono hw5.size)
        have hs9 := ((hs3.below hb4).below hb5).below hal6
        have hx9 := ((hx3.below hb4).below hb5).below hal6
        have ht9 := ((ht3.below hb4).below hb5).below hal6
        clear hb4 hb5 hx4 hal6
        go_wp2_with fail
        refine (implSwapFlats_e hx9 ht9 hL2 hq2).mono ?_
        rintro e w10 ⟨v10, rfl, ho10, hb10⟩
        have HS := Lib.hid (hs9.below hb10)
        have HX := Lib.hid (hx9.below hb10)
        have HT := Lib.hid (ht9.below hb10)
        have HB := Lib.hid ho10.fts
        have hw10 := hw9.trans (hb10.mono hw9.size)
        obtain ⟨ba, bc, rfl, -, -⟩ := ho10.form
        obtain ⟨zl, z0, z1, z2, z3, zf⟩ := hbx.mv (R := w5.heap.size + 1) (Mv.of_below hb10) hbx.lt (by omega)
        obtain ⟨jq, hj1⟩ : ∃ jq, jfl L rb ⟨pa, pb, pc, pd⟩ = jq := ⟨_, rfl⟩
        have hj2 : jfl fs rb ⟨pa, pb, pc, pd⟩ = jq := by rw [← hj1, ← hLs, jfl_swap hq]
        have hjj : (jq == jq) = true := by cases jq <;> rfl
        clear hb10 hs9 hx9 ht9 ho10 hbx zf
        go_wp2_with fail
        refine wp_region_over (by kernel_rfl) (by kernel_rfl) (fun ov => ?_); have ov0 := fun x => ov x (w5.heap.size) (by (try simp) <;> omega); clear ov; (iterate 9 (iterate 8 (try go_big_quiet_step (first | (go_at_call 13; with_reducible exact callsOver (implJF_b (HX.out.below (over_below _ _)) (HT.out.below (over_below _ _)) hj1)) | (go_at_call 13; with_reducible exact callsOver (implJF_b (HS.out.below (over_below _ _)) (HT.out.below (over_below _ _)) hj2)) | (go_at_call 9; with_reducible exact callsOver (sameFlats_e (HB.out.below (over_below _ _)) (HS.out.below (over_below _ _)))))))); refine wpQuiet_nil ?_; intro wa hw9; have hb_wa := below_over hw9; clear hw9 ov0
        have hwa := hw10.trans (hb_wa.mono hw10.size)
        go_wp2
        go_ret
        exact ⟨rfl, hwa⟩
end Go.Proofs.YthflbpoogolebaaDoor
