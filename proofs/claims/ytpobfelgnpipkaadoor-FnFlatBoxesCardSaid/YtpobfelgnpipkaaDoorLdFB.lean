/- The law FnFlatBoxes: the walks. -/
import Derived.Test.YtpobfelgnpipkaaDoorDxB
import Derived.Test.YtpobfelgnpipkaaDoorDx
import Derived.Test.YtpobfelgnpipkaaDoorAlive
namespace Go.Proofs.YtpobfelgnpipkaaDoor
open Go.RowKit
set_option maxHeartbeats 2000000 in
set_option maxRecDepth 100000 in
theorem specFB_any {lo : Nat} (fs : List Ft) (v : Value) (w : World) (hs : Fts lo w v fs) (hl : fs.length ≤ 61) (hk : FtOk (fun n => n ≤ 4) fs) :
    Calls Tryd.prog 58 #[v] w fun e w' => ∃ v', e = .returned v' ∧ Bxs 0 w' v' (fbx fs) ∧ Below w.heap.size w w' := by
  obtain ⟨a, cap, rfl, hlc, hcm⟩ := hs.form
  unfold maxLen at hcm
  obtain ⟨i0, hi, hy0, hy1, hy2⟩ := info_parts infoBx
  obtain ⟨fv, hfv⟩ : ∃ fv, fvalid fs = fv := ⟨_, rfl⟩
  go_enter Tryd.func58, Tryd.ntmps58
  go_wp2_with fail
  refine (ownFlats_any fs _ _ hs (drawn_ftN hl hk)).mono ?_
  rintro e w1 ⟨v1, rfl, ho1, hb1⟩
  have hz1 := hb1.size
  have hs1 := ho1.fts
  obtain ⟨sa, sc, rfl, hsc, hsm⟩ := hs1.form
  unfold maxLen at hsm
  generalize hn : fs.length = n at *
  have HN := Lib.hid hn
  have hal : Below w1.heap.size w1 (w1.alloc (.cells #[] 28)) := (Below.refl _ _).alloc (Nat.le_refl _) _
  have HO0 := Lib.hid (show BsO w.heap.size (w1.alloc (.cells #[] 28)) (.slice (some ⟨w1.heap.size, 0, none⟩) 0 0) [] from ⟨[], litOwn 28 1 enc1 hz1, All2.nil⟩)
  have HS1 := Lib.hid hs1
  clear hs ho1 hn hs1
  go_wp2_with fail
  go_loopw [3, 4] (fun o i wr => ∃ (k : Nat), k ≤ n ∧ i = .int .i64 k ∧ (fv = false → k = 0) ∧ Hid (BsO w.heap.size wr o ((fboxes fs).take k)) ∧ Hid (∀ z, o.ownBlock = some z → w1.heap.size ≤ z) ∧ Below w1.heap.size w1 wr) (fun _ i _ => n - (intOf i).toNat)
  case atStart => exact ⟨0, by omega, rfl, fun _ => rfl, HO0, Lib.hid (fun z hz => by cases hz; exact Nat.le_refl _), hal⟩
  case round =>
    obtain ⟨k, hk', rfl, hk0, HO, HZ, hbr⟩ := hrel
    have hzr := hbr.size
    have hwr : Below w.heap.size w wr := hb1.trans (hbr.mono hz1)
    have hsr := HS1.out.below hbr
    have HFV := Lib.hid hfv
    by_cases hlt : k < n
    · have i1 : (k : Int) < (n : Int) := by omega
      have i2 : (0 : Int) ≤ (k : Int) := by omega
      cases fv
      · go_wp2_with fail
        refine (specFV_b hsr hfv).mono ?_
        rintro e w3 ⟨rfl, hb3⟩
        have hw3 := hwr.trans (hb3.mono hwr.size)
        have hk00 : k = 0 := by first | exact hk0 rfl | exact hk0 trivial | simpa using hk0
        subst hk00
        obtain ⟨vs, g1, g2⟩ := (HO.out.bxs)
        have HB := Lib.hid (show Bxs 0 w3 u3 (fbx fs) by
          rw [fbx, HFV.out]
          have : vs = [] := List.eq_nil_of_length_eq_zero (by rw [g2.1]; simp)
          subst this
          exact ⟨[], SlFr.mono (g1.below hb3) (Nat.zero_le _), All2.nil⟩)
        go_wp2
        go_ret
        exact ⟨_, rfl, HB.out, hw3⟩
      · obtain ⟨f, hx⟩ : ∃ f, fs[k]? = some f := ⟨_, List.getElem?_eq_getElem (by rw [HN.out]; exact hlt)⟩
        have HXX := Lib.hid (fboxes_get hx)
        obtain ⟨b, o, sv, rfl, hbl, c0, c1, hsv⟩ := HS1.out.at hx
        obtain ⟨x1, y1, rfl, -, -⟩ := hsv.form
        go_wp2_with fail
        refine (specFV_b hsr hfv).mono ?_
        rintro e w3 ⟨rfl, hb3⟩
        have hb13 : Below w1.heap.size w1 w3 := hbr.trans (hb3.mono hzr)
        have hz3 := hb13.size
        replace c0 := (hb13.cell (p := ⟨b, o + k * 2, none⟩) hbl).trans c0
        have hbl3 : b < w3.heap.size := by omega
        obtain ⟨vs, hvs, hal⟩ := HO.out
        obtain ⟨ua, uc, hu, -, -⟩ : ∃ a c, u3 = .slice a vs.length c ∧ True ∧ True := by
          rcases OwnSl.form hvs with ⟨h, h'⟩ | ⟨g, c, h, _⟩
          · exact ⟨_, _, by rw [h, h']; rfl, trivial, trivial⟩
          · exact ⟨_, _, h, trivial, trivial⟩
        subst hu
        have hown : ∀ z, (Value.slice ua vs.length uc).ownBlock = some z → w1.heap.size ≤ z := HZ.out
        have HVS := Lib.hid (OwnSl.kept hvs hb3)
        have HAL := Lib.hid (hal.mono (fun _ _ h => (h.sub (Sb.hole hb3.size (fun j _ j2 j3 => ⟨j3, hb3.block j j2⟩)) : Rws w.heap.size (hole w3 (Value.slice ua vs.length uc).ownBlock) _ _)))
        have HEL := Lib.hid (show Rws w.heap.size (hole w3 (Value.slice ua vs.length uc).ownBlock) (.slice x1 f.box.length y1) f.box from
          hsv.sub (⟨by rw [hole_size]; exact hz3, fun p c hp hc => hole_cell.2 ⟨fun e => by
            have h1 := hown p.block e.symm
            have h2 := World.block_lt_of_cell? _ _ hc
            omega, (World.cell?_of_block (hb13.block p.block (World.block_lt_of_cell? _ _ hc))).trans hc⟩⟩))
        have HBD := Lib.hid (show vs.length ≤ 61 by have := hal.1; rw [List.length_take] at this; omega)
        clear hvs hal hsv hx
        go_wp2_with (at_builtin; refine wpList_append_lies _ rfl _ _ 42 rfl w.heap.size 28 i0 _ 1 24 Tryd.underlying42 hi hy0 hy1 hy2 rfl (by decide) _ vs.length (vs.flatMap enc1) rfl (World.ownsRow.alloc HVS.out _) ⟨w3.heap.size, 0, none⟩ 1 1 (enc1 (.slice x1 f.box.length y1)) rfl rfl (cellsNew w3 (enc1 (.slice x1 f.box.length y1)) _) ?c2 (by decide) ?c3 ?c4 ?c5 _ rfl ?_)
        case c2 => simp [Value.oneCell']
        case c3 => have := HBD.out; simp only [maxLen]; omega
        case c4 => have := HBD.out; omega
        case c5 => simp; omega
        intro g8 cap8 w8 hown8 hgrow8 hlies8 hlt8
        have hown9 : OwnSl w.heap.size 28 1 enc1 w8 (.slice (some ⟨g8, 0, none⟩) (vs.length + 1) cap8) (vs ++ [.slice x1 f.box.length y1]) := by unfold OwnSl; simpa using hown8
        have hF8 : BsO w.heap.size w8 (.slice (some ⟨g8, 0, none⟩) (vs.length + 1) cap8) ((fboxes fs).take k ++ [f.box]) :=
          BsO.push (w := w3) (H := w3.heap.size + 1) HAL.out HEL.out (grown_old hgrow8) hown9 (fun z hz => by cases hz; simpa using hlies8) (by omega)
        have HF8 := Lib.hid (show BsO w.heap.size w8 (.slice (some ⟨g8, 0, none⟩) (vs.length + 1) cap8) ((fboxes fs).take (k + 1)) by rw [List.take_add_one, HXX.out]; exact hF8)
        have HZ8 := Lib.hid (show ∀ z, (Value.slice (some ⟨g8, 0, none⟩) (vs.length + 1) cap8).ownBlock = some z → w1.heap.size ≤ z from fun z hz => by
          cases hz
          rcases hlies8 with h | h
          · exact hown _ h
          · (show w1.heap.size ≤ g8); omega)
        have hB8 : Below w1.heap.size w1 w8 := hb13.trans (((Below.refl _ _).alloc hz3 _).grown hgrow8 (by simp; omega) (fun h hh => hown h hh))
        clear hown8 hgrow8 hlies8 hlt8 hown9 hF8
        go_wp2
        go_roundw
        case rel => exact ⟨k + 1, by omega, by go_num, (fun h => by cases h), HF8, HZ8, hB8⟩
        case measure => simp [intOf]; omega
    · have hkn : k = n := by omega
      have HB := Lib.hid (show Bxs 0 wr u3 (fbx fs) by
        obtain ⟨vs, g1, g2⟩ := HO.out.bxs
        cases fv
        · have hk00 : k = 0 := by first | exact hk0 rfl | exact hk0 trivial | simpa using hk0
          subst hk00
          rw [fbx, HFV.out]
          have : vs = [] := List.eq_nil_of_length_eq_zero (by rw [g2.1]; simp)
          subst this
          exact ⟨[], SlFr.mono g1 (Nat.zero_le _), All2.nil⟩
        · rw [List.take_of_length_le (by simp [fboxes, HN.out]; omega)] at g2
          rw [fbx, HFV.out]
          exact ⟨vs, SlFr.mono g1 (Nat.zero_le _), g2.mono (fun _ _ h => h.mono (Nat.zero_le _))⟩)
      go_wp2
      go_ret
      exact ⟨_, rfl, HB.out, hwr⟩
def DrewF (w : World) (e : Ending) (w' : World) : Prop := ∃ v fs, e = .returned v ∧ FsD w w' v fs
set_option maxHeartbeats 1000000 in
theorem drawFB_any (bs : List Int) (v : Value) (w : World) (h : CodeAt w v bs) : Calls Tryd.prog 57 #[v] w (DrewF w) := by
  go_enter Tryd.func57, Tryd.ntmps57
  go_wp2_with fail
  refine (open_any bs _ _ h).mono ?_
  rintro e w1 ⟨R, bs', rfl, hR, hr1, hb1⟩
  have hz1 := hb1.size
  have hRlt := hr1.lt
  go_wp2_with fail
  refine (drawFts_any R bs' 0 9 _ hr1 (by omega) (by omega) (by omega)).mono ?_
  rintro e w2 ⟨v2, fs, q2, rfl, ho2, hl2, hk2, hr2, hq2, hm2⟩
  have HO := Lib.hid ho2
  have hB : Below w.heap.size w w2 := hb1.trans (hm2.below (by omega) hR)
  clear ho2 hr2 hm2
  go_wp2
  go_ret
  exact ⟨_, fs, rfl, HO.out.low hz1, hl2, hk2, hB⟩
set_option maxHeartbeats 4000000 in
set_option maxRecDepth 100000 in
theorem law_FnFlatBoxes (bs : List Int) (v : Value) (w : World) (h : CodeAt w v bs) (ht : Tab w) :
    Calls Tryd.prog 12 #[v] w fun e w' => e = .returned (.bool true) ∧ Below w.heap.size w w' := by
  obtain ⟨a, cap, rfl, l1, l2, -⟩ := code_cells h
  unfold maxLen at l2
  by_cases hl : 1048576 < bs.length
  · go_enter Tryd.func12, Tryd.ntmps12
    go_wp2
    go_ret
    exact ⟨rfl, by (repeat' (first | with_reducible exact Below.refl _ _ | with_reducible assumption | with_reducible refine Below.setCell ?_ ?_ _ | with_reducible refine Below.alloc ?_ ?_ _ | with_reducible refine Below.drew ?_ | with_reducible refine belDrewN ?_ _ | with_reducible refine Below.trans ?_ (Below.mono (by assumption) ?_) | omega | (simp; omega) | (simp; done)))⟩
  · go_enter Tryd.func12, Tryd.ntmps12
    go_wp2_with fail
    refine (drawFB_any _ _ _ h).mono ?_
    rintro e w0 ⟨v0, fs, rfl, ho, hlen, hok, hb0⟩
    have hs0 : Fts 0 w0 v0 fs := ho.fts.mono (Nat.zero_le _)
    have ht0 := ht.below hb0
    obtain ⟨sa, sc, rfl, hlc, hcm⟩ := hs0.form
    unfold maxLen at hcm
    clear ho
    go_wp2_with fail
    refine (implFB_any fs _ _ hs0 ht0).mono ?_
    rintro e w1 ⟨v1, rfl, hx1, hb1⟩
    have hs1 := hs0.below hb1
    have hw1 := hb0.trans (hb1.mono hb0.size)
    obtain ⟨xa, xc, rfl, hxc, hxm⟩ := hx1.form
    unfold maxLen at hxm
    clear hb1
    go_wp2_with fail
    refine (specFB_any fs _ _ hs1 hlen hok).mono ?_
    rintro e w2 ⟨v2, rfl, hy2, hb2⟩
    have hs2 := hs1.below hb2
    have hx2 := hx1.below hb2
    have hw2 := hw1.trans (hb2.mono hw1.size)
    obtain ⟨ya, yc, rfl, hyc, hym⟩ := hy2.form
    clear hb2 hs1 hx1
    go_wp2_with fail
    refine (sameBoxes_e hx2 hy2).mono ?_
    rintro e w3 ⟨rfl, hb3⟩
    have hs3 := hs2.below hb3
    have hx3 := hx2.below hb3
    have hw3 := hw2.trans (hb3.mono hw2.size)
    clear hb3 hs2 hx2 hy2
    cases hfv : fvalid fs
    · have h0 : (fbx fs).length = 0 := by rw [fbx, hfv]; rfl
      rw [h0]
      go_wp2_with fail
      refine (specFV_b hs3 hfv).mono ?_
      rintro e w4 ⟨rfl, hb4⟩
      have hw4 := hw3.trans (hb4.mono hw3.size)
      go_wp2_with fail
      refine (alive_any _).mono ?_
      rintro e w5 ⟨rfl, hb5⟩
      have hw5 := hw4.trans (hb5.mono hw4.size)
      go_wp2
      go_ret
      exact ⟨rfl, hw5⟩
    · have h0 : (fbx fs).length = fs.length := by rw [fbx, hfv]; simp [fboxes]
      have hbx : fbx fs = fboxes fs := by rw [fbx, hfv]; rfl
      rw [h0] at hx3 hxc ⊢
      rw [hbx] at hx3
      generalize hn : fs.length = n at *
      have HN := Lib.hid hn
      go_wp2_with fail
      refine (specFV_b hs3 hfv).mono ?_
      rintro e w4 ⟨rfl, hb4⟩
      have hs4 := hs3.below hb4
      have hx4 := hx3.below hb4
      have hw4 := hw3.trans (hb4.mono hw3.size)
      clear hb4 hs3 hx3 hn
      go_wp2_with fail
      go_loopw [5] (fun i wr => ∃ k : Nat, k ≤ n ∧ i = .int .i64 k ∧ Below w4.heap.size w4 wr) (fun i _ => n - (intOf i).toNat)
      case atStart => exact ⟨0, by omega, rfl, Below.refl _ _⟩
      case round =>
        obtain ⟨k, hk, rfl, hbr⟩ := hrel
        have hzr := hbr.size
        have hwr := hw4.trans (hbr.mono hw4.size)
        by_cases hlt : k < n
        · have i1 : (k : Int) < (n : Int) := by omega
          have i2 : (0 : Int) ≤ (k : Int) := by omega
          obtain ⟨f, hx⟩ : ∃ f, fs[k]? = some f := ⟨_, List.getElem?_eq_getElem (by rw [HN.out]; exact hlt)⟩
          obtain ⟨b, o, sv, rfl, hbl, c0, hsv⟩ := (hx4.below hbr).at (fboxes_get hx)
          obtain ⟨b', o', tv, rfl, hbl', d0, d1, htv⟩ := (hs4.below hbr).at hx
          have HSV := Lib.hid hsv
          have HTV := Lib.hid htv
          clear hsv htv hx
          go_wp2_with fail
          refine wp_region_over (by kernel_rfl) (by kernel_rfl) (fun ov => ?_); have ov0 := fun x => ov x (b) (by (try simp) <;> omega); have ov1 := fun x => ov x (b') (by (try simp) <;> omega); clear ov; (iterate 9 (iterate 8 (try go_big_quiet_step (first | (go_at_call 22; with_reducible exact callsOver (sameBox_e (HSV.out.below (over_below _ _)) (HTV.out.below (over_below _ _)))))))); refine wpQuiet_nil ?_; intro w9 hw9; have hb_w9 := below_over hw9; clear hw9 ov0 ov1
          have hb9 : Below w4.heap.size w4 w9 := hbr.trans (hb_w9.mono hzr)
          clear hb_w9
          go_wp2
          go_roundw
          case rel => exact ⟨k + 1, by omega, by go_num, hb9⟩
          case measure => simp [intOf]; omega
        · have hkn : k = n := by omega
          go_wp2
          go_ret
          exact ⟨ret_bool (by simp), hwr⟩
end Go.Proofs.YtpobfelgnpipkaaDoor
