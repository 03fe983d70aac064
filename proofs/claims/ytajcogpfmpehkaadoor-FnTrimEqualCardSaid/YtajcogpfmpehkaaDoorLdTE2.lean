/- The law FnTrimEqual: the walk. -/
import Derived.Test.YtajcogpfmpehkaaDoorLdTTd
import Derived.Test.YtajcogpfmpehkaaDoorShW
import Derived.Test.YtajcogpfmpehkaaDoorDxBT
import Derived.Test.YtajcogpfmpehkaaDoorDxAJ
import Derived.Test.YtajcogpfmpehkaaDoorPaS
namespace Go.Proofs.YtajcogpfmpehkaaDoor
open Go.RowKit
/-- The same boxes, each with the one word. -/
def fall (fs : List Ft) (r : Bool) : List Ft := fs.map (fun f => ⟨f.box, r⟩)
theorem fall_acc {fs : List Ft} {r : Bool} : ∀ f ∈ fall fs r, f.acc = r := fun f hf => by
  unfold fall at hf
  obtain ⟨g, -, rfl⟩ := List.mem_map.1 hf
  rfl
theorem fall_succ {fs : List Ft} {r : Bool} {k : Nat} {f : Ft} (h : fs[k]? = some f) : fall (fs.take (k + 1)) r = fall (fs.take k) r ++ [⟨f.box, r⟩] := by
  unfold fall
  rw [List.take_add_one, h, Option.toList_some, List.map_append]
  rfl
set_option maxHeartbeats 4000000 in
set_option maxRecDepth 100000 in
theorem law_FnTrimEqual (bs : List Int) (v : Value) (w : World) (h : CodeAt w v bs) (ht : Tab w) :
    Calls Tryd.prog 3 #[v] w fun e w' => e = .returned (.bool true) ∧ Below w.heap.size w w' := by
  obtain ⟨a, cap, rfl, l1, l2, -⟩ := code_cells h
  unfold maxLen at l2
  by_cases hl : 1048576 < bs.length
  · go_enter Tryd.func3, Tryd.ntmps3
    go_wp2
    go_ret
    exact ⟨rfl, by (repeat' (first | with_reducible exact Below.refl _ _ | with_reducible assumption | with_reducible refine Below.setCell ?_ ?_ _ | with_reducible refine Below.alloc ?_ ?_ _ | with_reducible refine Below.drew ?_ | with_reducible refine belDrewN ?_ _ | with_reducible refine Below.trans ?_ (Below.mono (by assumption) ?_) | omega | (simp; omega) | (simp; done)))⟩
  go_enter Tryd.func3, Tryd.ntmps3
  go_wp2_with fail
  refine (drawTT_any _ _ _ h).mono ?_
  rintro e w1 ⟨v0, fs, r, rfl, ho, hlen, hok, hb_w1⟩
  have hw_w1 := hb_w1
  have HS := Lib.hid (ho.fts.mono (Nat.zero_le _))
  have HT := Lib.hid (ht.below hb_w1)
  have HOK := Lib.hid hok
  have HFN := Lib.hid (drawn_ftN hlen hok)
  clear hb_w1 ho hok h
  obtain ⟨sa, sc, rfl, hlc_sa, hcm_sa⟩ := HS.out.form
  unfold maxLen at hcm_sa
  obtain ⟨R, hR⟩ : ∃ R, ttrim fs r = R := ⟨_, rfl⟩
  have HR := Lib.hid hR
  clear hR
  go_wp2_with fail
  refine (implTrimTail_e HS.out HT.out HR.out).mono ?_
  rintro e w2 ⟨v2, rfl, ho, hb_w2⟩
  have hw_w2 := hw_w1.trans (hb_w2.mono hw_w1.size)
  clear hw_w1
  replace HS := Lib.hid (HS.out.below hb_w2)
  replace HT := Lib.hid (HT.out.below hb_w2)
  have HX := Lib.hid (ho.fts)
  clear hb_w2 ho
  obtain ⟨xa, xc, rfl, hlc_xa, hcm_xa⟩ := HX.out.form
  unfold maxLen at hcm_xa
  go_wp2_with fail
  refine (specTrimTail_e HS.out HFN.out HR.out).mono ?_
  rintro e w3 ⟨v3, rfl, ho, hb_w3⟩
  have hw_w3 := hw_w2.trans (hb_w3.mono hw_w2.size)
  clear hw_w2
  replace HS := Lib.hid (HS.out.below hb_w3)
  replace HT := Lib.hid (HT.out.below hb_w3)
  replace HX := Lib.hid (HX.out.below hb_w3)
  have HY := Lib.hid (ho)
  clear hb_w3 ho
  obtain ⟨ya, yc, rfl, hlc_ya, hcm_ya⟩ := HY.out.form
  unfold maxLen at hcm_ya
  go_wp2_with fail
  refine (sameFlats_e HX.out HY.out).mono ?_
  rintro e w4 ⟨rfl, hb_w4⟩
  have hw_w4 := hw_w3.trans (hb_w4.mono hw_w3.size)
  clear hw_w3
  replace HS := Lib.hid (HS.out.below hb_w4)
  replace HT := Lib.hid (HT.out.below hb_w4)
  replace HX := Lib.hid (HX.out.below hb_w4)
  replace HY := Lib.hid (HY.out.below hb_w4)
  clear hb_w4 
  clear HY
  clear HX
  cases hv : fvalid fs
  · go_wp2_with fail
    refine (specFV_b HS.out hv).mono ?_
    rintro e w5 ⟨rfl, hb_w5⟩
    have hw_w5 := hw_w4.trans (hb_w5.mono hw_w4.size)
    clear hw_w4
    replace HS := Lib.hid (HS.out.below hb_w5)
    replace HT := Lib.hid (HT.out.below hb_w5)
    clear hb_w5 
    go_wp2_with fail
    refine (alive_any _).mono ?_
    rintro e w6 ⟨rfl, hb_w6⟩
    have hw_w6 := hw_w5.trans (hb_w6.mono hw_w5.size)
    clear hw_w5
    replace HS := Lib.hid (HS.out.below hb_w6)
    replace HT := Lib.hid (HT.out.below hb_w6)
    clear hb_w6 
    go_wp2
    go_ret
    exact ⟨rfl, hw_w6⟩
  · go_wp2_with fail
    refine (specFV_b HS.out hv).mono ?_
    rintro e w7 ⟨rfl, hb_w7⟩
    have hw_w7 := hw_w4.trans (hb_w7.mono hw_w4.size)
    clear hw_w4
    replace HS := Lib.hid (HS.out.below hb_w7)
    replace HT := Lib.hid (HT.out.below hb_w7)
    clear hb_w7 
    clear hv HOK HFN
    obtain ⟨n, hn⟩ : ∃ n, fs.length = n := ⟨_, rfl⟩
    have HN := Lib.hid hn
    rw [hn] at HS hlen hlc_sa ⊢
    clear hn
    have hal : Below w7.heap.size w7 (w7.alloc (.cells #[] 34)) := (Below.refl _ _).alloc (Nat.le_refl _) _
    have HO0 := Lib.hid (show FtX (fun _ => False) w7.heap.size (w7.alloc (.cells #[] 34)) (.slice (some ⟨w7.heap.size, 0, none⟩) 0 0) (fall (fs.take 0) r) from ⟨[], litOwn 34 2 RF.enc (Nat.le_refl _), All2.nil⟩)
    go_wp2_with fail
    go_loopw [5, 6] (fun o i wr => ∃ k : Nat, k ≤ n ∧ i = .int .i64 k ∧ Hid (FtX (fun _ => False) w7.heap.size wr o (fall (fs.take k) r)) ∧ Below w7.heap.size w7 wr) (fun _ i _ => n - (intOf i).toNat)
    case atStart => exact ⟨0, by omega, rfl, HO0, hal⟩
    case round =>
      clear HO0 hal
      obtain ⟨k, hk, rfl, HO, hbr⟩ := hrel
      have hzr := hbr.size
      obtain ⟨oa, oc, rfl⟩ := HO.out.form
      have hOL : (fall (fs.take k) r).length ≤ 1000 := by unfold fall; rw [List.length_map, List.length_take]; omega
      by_cases hlt : k < n
      · have k1 : (k : Int) < (n : Int) := by omega
        have k0 : (0 : Int) ≤ (k : Int) := by omega
        obtain ⟨f, hx⟩ : ∃ f, fs[k]? = some f := ⟨_, List.getElem?_eq_getElem (by rw [HN.out]; exact hlt)⟩
        obtain ⟨b, o, sv, rfl, hbl, c0, c1, hsv⟩ := HS.out.at hx
        obtain ⟨x1, y1, rfl, -, -⟩ := hsv.form
        replace c0 := (hbr.cell (p := ⟨b, o + k * 2, none⟩) hbl).trans c0
        have hbl2 := Nat.lt_of_lt_of_le hbl hzr
        have HSU := Lib.hid (fall_succ (r := r) hx)
        have hsvv := RwV.old (P := fun q => some q = (Value.slice oa (fall (fs.take k) r).length oc).ownBlock ∨ False) hsv hbr (fun q hq => hq.elim (fun e => (HO.out.lt q e.symm).1) (fun e => e.elim))
        have hal : Below wr.heap.size wr (wr.alloc (.cells #[.slice x1 f.box.length y1, .bool r] 34)) := (Below.refl _ _).alloc (Nat.le_refl _) _
        obtain ⟨v7, wz7, hrun, hG, hgr, hat⟩ := ft_append (gs := [⟨f.box, r⟩]) 23 (HO.out.below hal) (litRF_at wr (.slice x1 f.box.length y1) r 34) ⟨rfl, fun i x y hx hy => by
          match i, hx, hy with
          | 0, hx, hy =>
            cases hx; cases hy
            exact ⟨hsvv.below hal, rfl⟩
          | i + 1, hx, hy => simp at hx⟩ (by simp; omega) (by simp; omega)
        have hwz7 : Below w7.heap.size w7 wz7 := (hbr.trans (hal.mono hzr)).grown hgr (by simp; omega) (fun z hz => (HO.out.lt z hz).1)
        have HG7 := Lib.hid (show FtX (fun _ => False) w7.heap.size wz7 v7 (fall (fs.take (k + 1)) r) by rw [HSU.out]; exact hG)
        generalize (fall (fs.take k) r).length = ol at *
        generalize f.box.length = fl at *
        clear hG hgr hat hx hsv hsvv
        go_wp2_with (at_builtin; refine wpList_append_run rfl _ _ 23 rfl rfl rfl hrun ?_)
        go_wp2
        go_roundw
        case rel => exact ⟨k + 1, by omega, by go_num, HG7, hwz7⟩
        case measure => simp [intOf]; omega
      · have HTK := Lib.hid (show fall (fs.take k) r = fall fs r by rw [List.take_of_length_le (by rw [HN.out]; omega)])
        have hw_wr := hw_w7.trans (hbr.mono hw_w7.size)
        clear hw_w7
        replace HS := Lib.hid (HS.out.below hbr)
        replace HT := Lib.hid (HT.out.below hbr)
        have HX := Lib.hid (HO.out.fts)
        rw [HTK.out] at HX ⊢
        clear HO HTK
        go_wp2_with fail
        refine (implTrimTail_e HX.out HT.out (ttrim_equal (r := r) fall_acc)).mono ?_
        rintro e w8 ⟨v5, rfl, ho5, hb_w8⟩
        have hw_w8 := hw_wr.trans (hb_w8.mono hw_wr.size)
        clear hw_wr
        replace HS := Lib.hid (HS.out.below hb_w8)
        replace HT := Lib.hid (HT.out.below hb_w8)
        replace HX := Lib.hid (HX.out.below hb_w8)
        have HY := Lib.hid (ho5.fts)
        clear hb_w8 ho5
        obtain ⟨ya2, yc2, rfl, hlc_ya2, hcm_ya2⟩ := HY.out.form
        unfold maxLen at hcm_ya2
        go_wp2_with fail
        refine (implShorten_e HX.out HT.out (shoB_equal (r := r) fall_acc)).mono ?_
        rintro e w9 ⟨v6, rfl, ho6, hb_w9⟩
        have hw_w9 := hw_w8.trans (hb_w9.mono hw_w8.size)
        clear hw_w8
        replace HS := Lib.hid (HS.out.below hb_w9)
        replace HT := Lib.hid (HT.out.below hb_w9)
        replace HX := Lib.hid (HX.out.below hb_w9)
        replace HY := Lib.hid (HY.out.below hb_w9)
        have HZ := Lib.hid (ho6.fts)
        clear hb_w9 ho6
        obtain ⟨za2, zc2, rfl, hlc_za2, hcm_za2⟩ := HZ.out.form
        unfold maxLen at hcm_za2
        go_wp2
        go_ret
        exact ⟨rfl, hw_w9⟩
end Go.Proofs.YtajcogpfmpehkaaDoor
