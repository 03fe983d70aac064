/- Live parts of rules: the reference's walk. -/
import Derived.Test.YtgmonbhdgnamnaaDoorRsL
import Derived.Test.YtgmonbhdgnamnaaDoorLvI
import Derived.Test.YtgmonbhdgnamnaaDoorFoL
import Derived.Test.YtgmonbhdgnamnaaDoorFtW
namespace Go.Proofs.YtgmonbhdgnamnaaDoor
open Go.RowKit
theorem fvalid_ftN {fs : List Ft} (h : fvalid fs = true) : ftN fs ≤ 1048576 :=
  drawn_ftN (by have := fvalid_60 h; omega) (fun k f hx => ⟨by have := (bvalid_four (fvalid_at h hx)).1; omega, fun j xs hj => bvalid_lens (fvalid_at h hx) j xs hj⟩)
set_option maxHeartbeats 2000000 in
set_option maxRecDepth 100000 in
theorem specFB_v {lo : Nat} (fs : List Ft) (v : Value) (w : World) (hs : Fts lo w v fs) (hfv : fvalid fs = true) :
    Calls Tryd.prog 93 #[v] w fun e w' => ∃ v', e = .returned v' ∧ Bxs 0 w' v' (fboxes fs) ∧ Below w.heap.size w w' := by
  obtain ⟨a, cap, rfl, hlc, hcm⟩ := hs.form
  unfold maxLen at hcm
  obtain ⟨i0, hi, hy0, hy1, hy2⟩ := info_parts infoBx
  have HFN := Lib.hid (fvalid_ftN hfv)
  have h60 := fvalid_60 hfv
  go_enter Tryd.func93, Tryd.ntmps93
  go_wp2_with fail
  refine (ownFlats_any fs _ _ hs HFN.out).mono ?_
  rintro e w1 ⟨v1, rfl, ho1, hb1⟩
  have hz1 := hb1.size
  have hs1 := ho1.fts
  obtain ⟨sa, sc, rfl, hsc, hsm⟩ := hs1.form
  unfold maxLen at hsm
  generalize hn : fs.length = n at *
  have HN := Lib.hid hn
  have hal : Below w1.heap.size w1 (w1.alloc (.cells #[] 28)) := (Below.refl _ _).alloc (Nat.le_refl _) _
  have HO0 := Lib.hid (show BsO w.heap.size (w1.alloc (.cells #[] 28)) (.slice (some ⟨w1.heap.size, 0, none⟩) 0 0) [] from ⟨[], litOwn 28 1 enc1 hz1, All2.nil⟩)
  have HS1 := Lib.hid hs1
  clear hs ho1 hn hs1
  go_wp2_with fail
  go_loopw [3, 4] (fun o i wr => ∃ (k : Nat), k ≤ n ∧ i = .int .i64 k ∧ Hid (BsO w.heap.size wr o ((fboxes fs).take k)) ∧ Hid (∀ z, o.ownBlock = some z → w1.heap.size ≤ z) ∧ Below w1.heap.size w1 wr) (fun _ i _ => n - (intOf i).toNat)
  case atStart => exact ⟨0, by omega, rfl, HO0, Lib.hid (fun z hz => by cases hz; exact Nat.le_refl _), hal⟩
  case round =>
    obtain ⟨k, hk', rfl, HO, HZ, hbr⟩ := hrel
    have hzr := hbr.size
    have hwr : Below w.heap.size w wr := hb1.trans (hbr.mono hz1)
    have hsr := HS1.out.below hbr
    by_cases hlt : k < n
    · have i1 : (k : Int) < (n : Int) := by omega
      have i2 : (0 : Int) ≤ (k : Int) := by omega
      obtain ⟨f, hx⟩ : ∃ f, fs[k]? = some f := ⟨_, List.getElem?_eq_getElem (by rw [HN.out]; exact hlt)⟩
      have HXX := Lib.hid (fboxes_get hx)
      obtain ⟨b, o, sv, rfl, hbl, c0, c1, hsv⟩ := HS1.out.at hx
      obtain ⟨x1, y1, rfl, -, -⟩ := hsv.form
      go_wp2_with fail
      refine (specFV_b hsr hfv).mono ?_
      rintro e w3 ⟨rfl, hb3⟩
      have hb13 : Below w1.heap.size w1 w3 := hbr.trans (hb3.mono hzr)
      have hz3 := hb13.size
      replace c0 := (hb13.cell (p := ⟨b, o + k * 2, none⟩) hbl).trans c0
      have hbl3 : b < w3.heap.size := by omega
      obtain ⟨vs, hvs, hal⟩ := HO.out
      obtain ⟨ua, uc, hu, -, -⟩ : ∃ a c, u3 = .slice a vs.length c ∧ True ∧ True := by
        rcases OwnSl.form hvs with ⟨h, h'⟩ | ⟨g, c, h, _⟩
        · exact ⟨_, _, by rw [h, h']; rfl, trivial, trivial⟩
        · exact ⟨_, _, h, trivial, trivial⟩
      subst hu
      have hown : ∀ z, (Value.slice ua vs.length uc).ownBlock = some z → w1.heap.size ≤ z := HZ.out
      have HVS := Lib.hid (OwnSl.kept hvs hb3)
      have HAL := Lib.hid (hal.mono (fun _ _ h => (h.sub (Sb.hole hb3.size (fun j _ j2 j3 => ⟨j3, hb3.block j j2⟩)) : Rws w.heap.size (hole w3 (Value.slice ua vs.length uc).ownBlock) _ _)))
      have HEL := Lib.hid (show Rws w.heap.size (hole w3 (Value.slice ua vs.length uc).ownBlock) (.slice x1 f.box.length y1) f.box from
        hsv.sub (⟨by rw [hole_size]; exact hz3, fun p c hp hc => hole_cell.2 ⟨fun e => by
          have h1 := hown p.block e.symm
          have h2 := World.block_lt_of_cell? _ _ hc
          omega, (World.cell?_of_block (hb13.block p.block (World.block_lt_of_cell? _ _ hc))).trans hc⟩⟩))
      have HBD := Lib.hid (show vs.length ≤ 61 by have := hal.1; rw [List.length_take] at this; omega)
      clear hvs hal hsv hx
      go_wp2_with (at_builtin; refine wpList_append_lies _ rfl _ _ 42 rfl w.heap.size 28 i0 _ 1 24 Tryd.underlying42 hi hy0 hy1 hy2 rfl (by decide) _ vs.length (vs.flatMap enc1) rfl (World.ownsRow.alloc HVS.out _) ⟨w3.heap.size, 0, none⟩ 1 1 (enc1 (.slice x1 f.box.length y1)) rfl rfl (cellsNew w3 (enc1 (.slice x1 f.box.length y1)) _) ?c2 (by decide) ?c3 ?c4 ?c5 _ rfl ?_)
      case c2 => simp [Value.oneCell']
      case c3 => have := HBD.out; simp only [maxLen]; omega
      case c4 => have := HBD.out; omega
      case c5 => simp; omega
      intro g8 cap8 w8 hown8 hgrow8 hlies8 hlt8
      have hown9 : OwnSl w.heap.size 28 1 enc1 w8 (.slice (some ⟨g8, 0, none⟩) (vs.length + 1) cap8) (vs ++ [.slice x1 f.box.length y1]) := by unfold OwnSl; simpa using hown8
      have hF8 : BsO w.heap.size w8 (.slice (some ⟨g8, 0, none⟩) (vs.length + 1) cap8) ((fboxes fs).take k ++ [f.box]) :=
        BsO.push (w := w3) (H := w3.heap.size + 1) HAL.out HEL.out (grown_old hgrow8) hown9 (fun z hz => by cases hz; simpa using hlies8) (by omega)
      have HF8 := Lib.hid (show BsO w.heap.size w8 (.slice (some ⟨g8, 0, none⟩) (vs.length + 1) cap8) ((fboxes fs).take (k + 1)) by rw [List.take_add_one, HXX.out]; exact hF8)
      have HZ8 := Lib.hid (show ∀ z, (Value.slice (some ⟨g8, 0, none⟩) (vs.length + 1) cap8).ownBlock = some z → w1.heap.size ≤ z from fun z hz => by
        cases hz
        rcases hlies8 with h | h
        · exact hown _ h
        · (show w1.heap.size ≤ g8); omega)
      have hB8 : Below w1.heap.size w1 w8 := hb13.trans (((Below.refl _ _).alloc hz3 _).grown hgrow8 (by simp; omega) (fun h hh => hown h hh))
      clear hown8 hgrow8 hlies8 hlt8 hown9 hF8
      go_wp2
      go_roundw
      case rel => exact ⟨k + 1, by omega, by go_num, HF8, HZ8, hB8⟩
      case measure => simp [intOf]; omega
    · have HB := Lib.hid (show Bxs 0 wr u3 (fboxes fs) by
        obtain ⟨vs, g1, g2⟩ := HO.out.bxs
        rw [List.take_of_length_le (by simp [fboxes, HN.out]; omega)] at g2
        exact ⟨vs, SlFr.mono g1 (Nat.zero_le _), g2.mono (fun _ _ h => h.mono (Nat.zero_le _))⟩)
      go_wp2
      go_ret
      exact ⟨_, rfl, HB.out, hwr⟩
theorem specLess_r {lo lo' : Nat} {b : Bx} {xs : List Bx} {u v : Value} {w : World} {R : Option (List Bx)} (h : blessB b xs = R) (hs : Rws lo w u b) (hr : Bxs lo' w v xs) (hb : bvalid b = true) (hx : ∀ z ∈ xs, bvalid z = true) :
    Calls Tryd.prog 92 #[.agg #[u], v] w fun e w' => ∃ z, e = .returned (.tuple #[z, .bool R.isSome]) ∧ Bxs 0 w' z (R.getD []) ∧ Below w.heap.size w w' := by
  subst h
  refine (specLess_any b xs u v w hs hr hb (fun k x hk => hx x (List.mem_of_getElem? hk))).mono ?_
  rintro e w' ⟨z, rfl, h1, h2, h3⟩
  refine ⟨z, rfl, ?_, h3⟩
  cases hO : blessB b xs with
  | none =>
    obtain ⟨c, rfl⟩ := h2 hO
    exact ⟨[], ⟨_, _, rfl, by simp, by simp, fun k x h => by simp at h⟩, All2.nil⟩
  | some ys => exact h1 ys hO
theorem Fts.takeS {lo : Nat} {w : World} {a : Option Addr} {n cap : Nat} {fs : List Ft} (h : Fts lo w (.slice a n cap) fs) {k : Nat} (hk : k ≤ n) : Fts 0 w (.slice a k cap) (fs.take k) := by
  obtain ⟨rs, h1, h2⟩ := h
  refine ⟨rs.take k, SlFr.of (SlAt.take (SlFr.at h1) hk), ?_⟩
  refine ⟨by rw [List.length_take, List.length_take, h2.1], fun j x y hx hy => ?_⟩
  obtain ⟨h3, hx⟩ := get_take hx
  obtain ⟨_, hy⟩ := get_take hy
  obtain ⟨g1, g2⟩ := h2.2 j x y hx hy
  exact ⟨g1.mono (Nat.zero_le _), g2⟩
set_option maxHeartbeats 2000000 in
set_option maxRecDepth 100000 in
theorem specLivePart_e {lo : Nat} {fs : List Ft} {R : List Bx} {v : Value} {n : Int} {q : Bool} {w : World} (hs : Fts lo w v fs) (hN : ftN fs ≤ 1048576) (h : livef fs n = R) (hq : (livep fs n).isSome = q) :
    Calls Tryd.prog 38 #[v, .int .i64 n] w fun e w' => ∃ v', e = .returned (.tuple #[v', .bool q]) ∧ Bxs 0 w' v' R ∧ Below w.heap.size w w' := by
  have HR := Lib.hid h
  have HQ := Lib.hid hq
  clear h hq
  go_enter Tryd.func38, Tryd.ntmps38
  go_wp2_with fail
  refine (ownFlats_any fs _ _ hs hN).mono ?_
  rintro e w1 ⟨v1, rfl, ho1, hb1⟩
  have hz1 := hb1.size
  have hs1 := ho1.fts
  obtain ⟨sa, sc, rfl, hsc, hsm⟩ := hs1.form
  unfold maxLen at hsm
  have HS1 := Lib.hid hs1
  clear hs ho1
  obtain ⟨fv, hv⟩ : ∃ fv, fvalid fs = fv := ⟨_, rfl⟩
  go_wp2_with fail
  refine (specFV_b hs1 hv).mono ?_
  rintro e w2 ⟨rfl, hb2⟩
  have hw2 := hb1.trans (hb2.mono hz1)
  have HS2 := Lib.hid (hs1.below hb2)
  clear hs1 HS1 hb2 hb1
  cases fv
  · have HR2 := Lib.hid (show R = [] ∧ q = false by
      have : livep fs n = none := livep_no (.inl hv)
      refine ⟨?_, ?_⟩
      · rw [← HR.out]; unfold livef; rw [this]; rfl
      · rw [← HQ.out, this]; rfl)
    go_wp2
    go_ret2
    refine ⟨_, by rw [HR2.out.2]; rfl, ?_, hw2.alloc hw2.size _⟩
    rw [HR2.out.1]
    exact ⟨[], ⟨_, _, rfl, by simp, by simp, fun k x h => by simp at h⟩, All2.nil⟩
  · have HV := Lib.hid hv
    generalize hn : fs.length = m at *
    have HN := Lib.hid hn
    have h60 : m ≤ 60 := by rw [← hn]; exact fvalid_60 hv
    have hw2z := hw2.size
    obtain ⟨r, hr⟩ : ∃ r, inB n 0 ((m : Int) - 1) = r := ⟨_, rfl⟩
    have HRR := Lib.hid hr
    clear hn
    go_wp2_with fail
    refine (l1In_b hr _).mono ?_
    rintro e _ ⟨rfl, rfl⟩
    have hw3 := hw2
    have HS3 := HS2
    clear HS2 hr
    cases r
    · have HR2 := Lib.hid (show R = [] ∧ q = false by
        have : livep fs n = none := livep_no (by
          have h1 := HRR.out
          rw [← Bool.not_eq_true, inB_iff] at h1
          rw [HN.out]
          by_cases h0 : n < 0
          · exact .inr (.inl h0)
          · exact .inr (.inr (by omega)))
        refine ⟨?_, ?_⟩
        · rw [← HR.out]; unfold livef; rw [this]; rfl
        · rw [← HQ.out, this]; rfl)
      go_wp2
      go_ret2
      refine ⟨_, by rw [HR2.out.2]; rfl, ?_, hw3.alloc hw3.size _⟩
      rw [HR2.out.1]
      exact ⟨[], ⟨_, _, rfl, by simp, by simp, fun k x h => by simp at h⟩, All2.nil⟩
    · have hin := inB_iff.1 HRR.out
      obtain ⟨k, rfl⟩ := Int.eq_ofNat_of_zero_le hin.1
      have hk : k < m := by omega
      obtain ⟨f, hx⟩ : ∃ f, fs[k]? = some f := ⟨_, List.getElem?_eq_getElem (by rw [HN.out]; exact hk)⟩
      obtain ⟨b, o, sv, rfl, hbl, c0, c1, hsv⟩ := HS3.out.at hx
      have HE := Lib.hid (livep_yes HV.out (show k < fs.length by rw [HN.out]; exact hk))
      obtain ⟨O, hO⟩ : ∃ O, livek fs k = O := ⟨_, rfl⟩
      have HL := Lib.hid (show blessB f.box (fboxes (fs.take k)) = O by rw [← hO]; unfold livek; rw [hx])
      have HR2 := Lib.hid (show R = O.getD [] ∧ q = O.isSome by
        refine ⟨?_, ?_⟩
        · rw [← HR.out]; unfold livef; rw [HE.out, hO]
        · rw [← HQ.out, HE.out, hO])
      have HT := Lib.hid (Fts.takeS HS3.out (Nat.le_of_lt hk))
      have HSV := Lib.hid hsv
      have HFV := Lib.hid (fvalid_at HV.out hx)
      have i1 : (k : Int) < (m : Int) := by omega
      have i2 : (0 : Int) ≤ (k : Int) := by omega
      have i3 : (k : Int) ≤ (sc : Int) := by omega
      have hw3z := hw3.size
      clear hx hsv hO HS3 hin
      go_wp2_with fail
      (refine wp_region_bel (W := w2) [BIs (.slice (some ⟨b, o, none⟩) m sc), BIs (.int .i64 (k : Int)), BIs (.pointer (some ⟨b, o + k * 2, none⟩)), BIs (.pointer (some ⟨b, o + k * 2, none⟩)), BIs (.agg #[sv]), BIs (.slice (some ⟨b, o, none⟩) m sc), BIs (.int .i64 (k : Int)), BIs (.slice (some ⟨b, o, none⟩) k sc), (fun w v => Bxs 0 w v (fboxes (fs.take k))), (fun w v => ∃ z, v = .tuple #[z, .bool O.isSome] ∧ Bxs 0 w z (O.getD [])), (fun w z => Bxs 0 w z (O.getD [])), BIs (.bool O.isSome), (fun w z => Bxs 0 w z (O.getD [])), BIs (.bool O.isSome)] (by kernel_rfl) (fun u => by simp only [frU, Act.put, List.setIfInBounds_toArray, List.set_cons_succ, List.set_cons_zero, Nat.zero_add, Nat.reduceAdd]; exact rfl) (by kernel_rfl) ⟨bst_is _, bst_is _, bst_is _, bst_is _, bst_is _, bst_is _, bst_is _, bst_is _, (fun _ _ _ hb h => h.below hb), (fun _ _ _ hb ⟨z, h1, h2⟩ => ⟨z, h1, h2.below hb⟩), (fun _ _ _ hb h => h.below hb), bst_is _, (fun _ _ _ hb h => h.below hb), bst_is _, trivial⟩ ?_ ?_; exact ⟨stB rfl (fun u w3 hC hd Q K hK => by (go_step; exact hK _ _ rfl (Below.refl _ _) rfl)), stB rfl (fun u w3 hC hd Q K hK => by (go_step; exact hK _ _ rfl (Below.refl _ _) rfl)), stB rfl (fun u w3 hC hd Q K hK => by (have hu := bis (w := w3) (hd 0 rfl); rw [hu] at hK ⊢; clear hu; have hu := bis (w := w3) (hd 1 rfl); rw [hu] at hK ⊢; clear hu; go_step; exact hK _ _ rfl (Below.refl _ _) rfl)), stB rfl (fun u w3 hC hd Q K hK => by (have hu := bis (w := w3) (hd 2 rfl); rw [hu] at hK ⊢; clear hu; go_step; exact hK _ _ rfl (Below.refl _ _) rfl)), stB rfl (fun u w3 hC hd Q K hK => by (have hu := bis (w := w3) (hd 3 rfl); rw [hu] at hK ⊢; clear hu; have z0 := (hC.cell (p := ⟨b, o + k * 2, none⟩) hbl).trans c0; go_step; exact hK _ _ rfl (Below.refl _ _) rfl)), stB rfl (fun u w3 hC hd Q K hK => by (go_step; exact hK _ _ rfl (Below.refl _ _) rfl)), stB rfl (fun u w3 hC hd Q K hK => by (go_step; exact hK _ _ rfl (Below.refl _ _) rfl)), stB rfl (fun u w3 hC hd Q K hK => by (have hu := bis (w := w3) (hd 5 rfl); rw [hu] at hK ⊢; clear hu; have hu := bis (w := w3) (hd 6 rfl); rw [hu] at hK ⊢; clear hu; go_step; exact hK _ _ rfl (Below.refl _ _) rfl)), stB rfl (fun u w3 hC hd Q K hK => by (have hu := bis (w := w3) (hd 7 rfl); rw [hu] at hK ⊢; clear hu; go_step; refine (specFB_v (fs.take k) _ _ (HT.out.below hC) (fvalid_take HV.out k)).mono ?_; rintro e w4 ⟨z4, rfl, ho4, hb4⟩; exact hK _ _ rfl hb4 ho4)), stB rfl (fun u w3 hC hd Q K hK => by (have hu := bis (w := w3) (hd 4 rfl); rw [hu] at hK ⊢; clear hu; have ho1 := hd 8 rfl; generalize u 8 = v1 at *; go_step; refine (specLess_r HL.out (HSV.out.below hC) ho1 HFV.out (fboxes_valid (fvalid_take HV.out k))).mono ?_; rintro e w4 ⟨z4, rfl, ho4, hb4⟩; exact hK _ _ rfl hb4 ⟨z4, rfl, ho4⟩)), stB rfl (fun u w3 hC hd Q K hK => by (obtain ⟨z, hu, hz⟩ := hd 9 rfl; rw [hu] at hK ⊢; clear hu; go_step; exact hK _ _ rfl (Below.refl _ _) hz)), stB rfl (fun u w3 hC hd Q K hK => by (obtain ⟨z, hu, hz⟩ := hd 9 rfl; rw [hu] at hK ⊢; clear hu; go_step; exact hK _ _ rfl (Below.refl _ _) rfl)), stB rfl (fun u w3 hC hd Q K hK => by (have h2 := hd 10 rfl; generalize u 10 = v2 at *; go_step; exact hK _ _ rfl (Below.refl _ _) h2)), stB rfl (fun u w3 hC hd Q K hK => by (have hu := bis (w := w3) (hd 11 rfl); rw [hu] at hK ⊢; clear hu; go_step; exact hK _ _ rfl (Below.refl _ _) rfl)), trivial⟩); intro u w9 hb_w9 hF; rw [bis (w := w9) (hF 0 (by decide))]; rw [bis (w := w9) (hF 1 (by decide))]; rw [bis (w := w9) (hF 2 (by decide))]; rw [bis (w := w9) (hF 3 (by decide))]; rw [bis (w := w9) (hF 4 (by decide))]; rw [bis (w := w9) (hF 5 (by decide))]; rw [bis (w := w9) (hF 6 (by decide))]; rw [bis (w := w9) (hF 7 (by decide))]; generalize u 8 = vx8 at *; generalize u 9 = vx9 at *; generalize u 10 = vx10 at *; rw [bis (w := w9) (hF 11 (by decide))]; have hz8 := hF 12 (by decide); generalize u 12 = z8 at *; rw [bis (w := w9) (hF 13 (by decide))]; clear hF
      have HZ := Lib.hid hz8
      go_wp2
      go_ret2
      exact ⟨_, by rw [HR2.out.2]; rfl, by rw [HR2.out.1]; exact HZ.out, hw3.trans (hb_w9.mono hw3z)⟩
end Go.Proofs.YtgmonbhdgnamnaaDoor
