/- The law FnFlatsSame: the walk. -/
import Derived.Test.YtajcogpfmpehkaaGreatDoorVeX
import Derived.Test.YtajcogpfmpehkaaGreatDoorFdS
import Derived.Test.YtajcogpfmpehkaaGreatDoorShW
import Derived.Test.YtajcogpfmpehkaaGreatDoorDxAJ
import Derived.Test.YtajcogpfmpehkaaGreatDoorDxBT
namespace Go.Proofs.YtajcogpfmpehkaaGreatDoor
open Go.RowKit
def DrewVL (w : World) (e : Ending) (w' : World) : Prop := ∃ v u fs gs r c, e = .returned (.tuple #[v, .bool r, u, .bool c]) ∧ Fts 0 w' v fs ∧ fs.length ≤ 61 ∧ FtOk (fun n => n ≤ 4) fs ∧ Fts 0 w' u gs ∧ gs.length ≤ 61 ∧ FtOk (fun n => n ≤ 4) gs ∧ Below w.heap.size w w'
set_option maxHeartbeats 2000000 in
set_option maxRecDepth 100000 in
theorem drawVFlatsSame_any (bs : List Int) (v : Value) (w : World) (h : CodeAt w v bs) : Calls Tryz.prog 5 #[v] w (DrewVL w) := by
  go_enter Tryz.func5, Tryz.ntmps5
  go_wp2_with fail
  refine (open_any bs _ _ h).mono ?_
  rintro e w1 ⟨R, bs', rfl, hR, hr1, hb1⟩
  have hz1 := hb1.size
  go_wp2_with fail
  refine (versions_any R bs' 0 _ hr1 (by omega)).mono ?_
  rintro e w2 ⟨v2, u2, fs, gs, r, c, rfl, ho2, hl2, hk2, hg2, hl3, hk3, hm2⟩
  have hB : Below w.heap.size w w2 := hb1.trans (hm2.below (by omega) hR)
  have HS := Lib.hid (ho2.fts.mono (Nat.zero_le _))
  have HG := Lib.hid hg2
  have HK2 := Lib.hid hk2
  have HK3 := Lib.hid hk3
  obtain ⟨sa, sc, rfl, -, -⟩ := HS.out.form
  obtain ⟨ga, gc, rfl, -, -⟩ := HG.out.form
  clear hr1 hm2 ho2 hg2 hk2 hk3
  go_wp2_with fail
  exact bodyPost_ret (v := .tuple #[.slice sa fs.length sc, .bool r, .slice ga gs.length gc, .bool c]) (by simp [results, Tryz.results5, go_sem]) rfl ⟨_, _, fs, gs, r, c, rfl, HS.out, hl2, HK2.out, HG.out, hl3, HK3.out, hB⟩
theorem fsame_self {fs gs : List Ft} {r c : Bool} (h : fsame fs r gs c ≠ -1) : fsame fs r fs r = 1 := by
  cases hx : fparts fs r with
  | none => exact absurd (fsame_no (.inl hx)) h
  | some x =>
    rw [fsame_yes hx hx, fdif_equal (fun _ => rfl)]
    rfl
theorem fsame_short (fs : List Ft) (r : Bool) : fsame fs r (shoB fs r) r ≠ 0 := by
  cases hv : fvalid fs
  · rw [fsame_no (.inl (fparts_inv hv))]
    omega
  · exact fsame_equal (fun p => (shoB_jfl hv r p).symm)
theorem fsame_ne {fs gs : List Ft} {r c : Bool} (h : fsame fs r gs c ≠ 0) : fsame fs r gs c = -1 ∨ fsame fs r gs c = 1 := by
  rcases fsame_range fs gs r c with h1 | h1 | h1
  · exact .inl h1
  · exact absurd h1 h
  · exact .inr h1
set_option maxHeartbeats 4000000 in
set_option maxRecDepth 100000 in
theorem law_FnFlatsSame (bs : List Int) (v : Value) (w : World) (h : CodeAt w v bs) (ht : Tab w) :
    Calls Tryz.prog 3 #[v] w fun e w' => e = .returned (.bool true) ∧ Below w.heap.size w w' := by
  obtain ⟨a, cap, rfl, l1, l2, -⟩ := code_cells h
  unfold maxLen at l2
  by_cases hl : 1048576 < bs.length
  · go_enter Tryz.func3, Tryz.ntmps3
    go_wp2
    go_ret
    exact ⟨rfl, by (repeat' (first | with_reducible exact Below.refl _ _ | with_reducible assumption | with_reducible refine Below.setCell ?_ ?_ _ | with_reducible refine Below.alloc ?_ ?_ _ | with_reducible refine Below.drew ?_ | with_reducible refine belDrewN ?_ _ | with_reducible refine Below.trans ?_ (Below.mono (by assumption) ?_) | omega | (simp; omega) | (simp; done)))⟩
  go_enter Tryz.func3, Tryz.ntmps3
  go_wp2_with fail
  refine (drawVFlatsSame_any _ _ _ h).mono ?_
  rintro e w1 ⟨v0, u0, fs, gs, r, c, rfl, hs0, hlen, hok, hg0, hlen2, hok2, hb_w1⟩
  have hw_w1 := hb_w1
  have HS := Lib.hid (hs0)
  have HG := Lib.hid (hg0)
  have HT := Lib.hid (ht.below hb_w1)
  have HFN := Lib.hid (drawn_ftN hlen hok)
  have HGN := Lib.hid (drawn_ftN hlen2 hok2)
  have HOK := Lib.hid hok
  have HOG := Lib.hid hok2
  clear hb_w1 hs0 hg0 hok hok2 h
  obtain ⟨sa, sc, rfl, hlc_sa, hcm_sa⟩ := HS.out.form
  unfold maxLen at hcm_sa
  obtain ⟨ga, gc, rfl, hlc_ga, hcm_ga⟩ := HG.out.form
  unfold maxLen at hcm_ga
  obtain ⟨d, hd⟩ : ∃ d, fsame fs r gs c = d := ⟨_, rfl⟩
  have HD := Lib.hid hd
  have HD2 := Lib.hid (show fsame gs c fs r = d by rw [← hd]; exact fsame_comm gs fs c r)
  obtain ⟨s1, hs1⟩ : ∃ d, fsame fs r fs r = d := ⟨_, rfl⟩
  have HS1 := Lib.hid hs1
  obtain ⟨R, hR⟩ : ∃ R, shoB fs r = R := ⟨_, rfl⟩
  have HR := Lib.hid hR
  obtain ⟨s2, hs2⟩ : ∃ d, fsame fs r R r = d := ⟨_, rfl⟩
  have HS2 := Lib.hid hs2
  have HF := Lib.hid (show ((d = -1 ∧ s1 = -1) ∨ (s1 = 1 ∧ (d = -1 ∨ d = 0 ∨ d = 1))) ∧ (s2 = -1 ∨ s2 = 1) from by
    refine ⟨?_, ?_⟩
    · rcases fsame_ne (fs := fs) (gs := fs) (r := r) (c := r) (fsame_equal (fun _ => rfl)) with h1 | h1
      · by_cases h2 : d = -1
        · exact .inl ⟨h2, hs1.symm.trans h1⟩
        · have := fsame_self (hd.symm ▸ h2 : fsame fs r gs c ≠ -1)
          omega
      · exact .inr ⟨hs1.symm.trans h1, by rw [← hd]; exact fsame_range fs gs r c⟩
    · rw [← hs2, ← hR]
      exact fsame_ne (fsame_short fs r))
  clear hd hs1 hs2 hR
  go_wp2_with fail
  refine (implFlatsSame_e HS.out HG.out HT.out HD.out).mono ?_
  rintro e w2 ⟨rfl, hb_w2⟩
  have hw_w2 := hw_w1.trans (hb_w2.mono hw_w1.size)
  clear hw_w1
  replace HS := Lib.hid (HS.out.below hb_w2)
  replace HG := Lib.hid (HG.out.below hb_w2)
  replace HT := Lib.hid (HT.out.below hb_w2)
  clear hb_w2 
  go_wp2_with fail
  refine (specFlatsSame_e HS.out HG.out HFN.out HGN.out HD.out).mono ?_
  rintro e w3 ⟨rfl, hb_w3⟩
  have hw_w3 := hw_w2.trans (hb_w3.mono hw_w2.size)
  clear hw_w2
  replace HS := Lib.hid (HS.out.below hb_w3)
  replace HG := Lib.hid (HG.out.below hb_w3)
  replace HT := Lib.hid (HT.out.below hb_w3)
  clear hb_w3 
  go_wp2_with fail
  refine (implFlatsSame_e HG.out HS.out HT.out HD2.out).mono ?_
  rintro e w4 ⟨rfl, hb_w4⟩
  have hw_w4 := hw_w3.trans (hb_w4.mono hw_w3.size)
  clear hw_w3
  replace HS := Lib.hid (HS.out.below hb_w4)
  replace HG := Lib.hid (HG.out.below hb_w4)
  replace HT := Lib.hid (HT.out.below hb_w4)
  clear hb_w4 
  go_wp2_with fail
  refine (implFlatsSame_e HS.out HS.out HT.out HS1.out).mono ?_
  rintro e w5 ⟨rfl, hb_w5⟩
  have hw_w5 := hw_w4.trans (hb_w5.mono hw_w4.size)
  clear hw_w4
  replace HS := Lib.hid (HS.out.below hb_w5)
  replace HG := Lib.hid (HG.out.below hb_w5)
  replace HT := Lib.hid (HT.out.below hb_w5)
  clear hb_w5 
  go_wp2_with fail
  refine (implShorten_e HS.out HT.out HR.out).mono ?_
  rintro e w6 ⟨v2, rfl, ho, hb_w6⟩
  have hw_w6 := hw_w5.trans (hb_w6.mono hw_w5.size)
  clear hw_w5
  replace HS := Lib.hid (HS.out.below hb_w6)
  replace HG := Lib.hid (HG.out.below hb_w6)
  replace HT := Lib.hid (HT.out.below hb_w6)
  have HX := Lib.hid (ho.fts)
  clear hb_w6 ho
  obtain ⟨xa, xc, rfl, hlc_xa, hcm_xa⟩ := HX.out.form
  unfold maxLen at hcm_xa
  go_wp2_with fail
  refine (implFlatsSame_e HS.out HX.out HT.out HS2.out).mono ?_
  rintro e w7 ⟨rfl, hb_w7⟩
  have hw_w7 := hw_w6.trans (hb_w7.mono hw_w6.size)
  clear hw_w6
  replace HS := Lib.hid (HS.out.below hb_w7)
  replace HG := Lib.hid (HG.out.below hb_w7)
  replace HT := Lib.hid (HT.out.below hb_w7)
  replace HX := Lib.hid (HX.out.below hb_w7)
  clear hb_w7 
  obtain ⟨hf1, hf2⟩ := HF.out
  clear HD HD2 HS1 HS2 HF
  rcases hf1 with ⟨rfl, rfl⟩ | ⟨rfl, rfl | rfl | rfl⟩ <;> rcases hf2 with rfl | rfl
  · go_wp2_with fail
    refine (alive_any _).mono ?_
    rintro e w8 ⟨rfl, hb_w8⟩
    have hw_w8 := hw_w7.trans (hb_w8.mono hw_w7.size)
    clear hw_w7
    replace HS := Lib.hid (HS.out.below hb_w8)
    replace HG := Lib.hid (HG.out.below hb_w8)
    replace HT := Lib.hid (HT.out.below hb_w8)
    replace HX := Lib.hid (HX.out.below hb_w8)
    clear hb_w8 
    go_wp2
    go_ret
    exact ⟨rfl, hw_w8⟩
  · go_wp2_with fail
    refine (alive_any _).mono ?_
    rintro e w9 ⟨rfl, hb_w9⟩
    have hw_w9 := hw_w7.trans (hb_w9.mono hw_w7.size)
    clear hw_w7
    replace HS := Lib.hid (HS.out.below hb_w9)
    replace HG := Lib.hid (HG.out.below hb_w9)
    replace HT := Lib.hid (HT.out.below hb_w9)
    replace HX := Lib.hid (HX.out.below hb_w9)
    clear hb_w9 
    go_wp2
    go_ret
    exact ⟨rfl, hw_w9⟩
  · go_wp2_with fail
    refine (alive_any _).mono ?_
    rintro e w10 ⟨rfl, hb_w10⟩
    have hw_w10 := hw_w7.trans (hb_w10.mono hw_w7.size)
    clear hw_w7
    replace HS := Lib.hid (HS.out.below hb_w10)
    replace HG := Lib.hid (HG.out.below hb_w10)
    replace HT := Lib.hid (HT.out.below hb_w10)
    replace HX := Lib.hid (HX.out.below hb_w10)
    clear hb_w10 
    go_wp2
    go_ret
    exact ⟨rfl, hw_w10⟩
  · go_wp2_with fail
    refine (alive_any _).mono ?_
    rintro e w11 ⟨rfl, hb_w11⟩
    have hw_w11 := hw_w7.trans (hb_w11.mono hw_w7.size)
    clear hw_w7
    replace HS := Lib.hid (HS.out.below hb_w11)
    replace HG := Lib.hid (HG.out.below hb_w11)
    replace HT := Lib.hid (HT.out.below hb_w11)
    replace HX := Lib.hid (HX.out.below hb_w11)
    clear hb_w11 
    go_wp2
    go_ret
    exact ⟨rfl, hw_w11⟩
  · go_wp2_with fail
    refine (alive_any _).mono ?_
    rintro e w12 ⟨rfl, hb_w12⟩
    have hw_w12 := hw_w7.trans (hb_w12.mono hw_w7.size)
    clear hw_w7
    replace HS := Lib.hid (HS.out.below hb_w12)
    replace HG := Lib.hid (HG.out.below hb_w12)
    replace HT := Lib.hid (HT.out.below hb_w12)
    replace HX := Lib.hid (HX.out.below hb_w12)
    clear hb_w12 
    go_wp2
    go_ret
    exact ⟨rfl, hw_w12⟩
  · go_wp2_with fail
    refine (alive_any _).mono ?_
    rintro e w13 ⟨rfl, hb_w13⟩
    have hw_w13 := hw_w7.trans (hb_w13.mono hw_w7.size)
    clear hw_w7
    replace HS := Lib.hid (HS.out.below hb_w13)
    replace HG := Lib.hid (HG.out.below hb_w13)
    replace HT := Lib.hid (HT.out.below hb_w13)
    replace HX := Lib.hid (HX.out.below hb_w13)
    clear hb_w13 
    go_wp2
    go_ret
    exact ⟨rfl, hw_w13⟩
  · go_wp2_with fail
    refine (alive_any _).mono ?_
    rintro e w14 ⟨rfl, hb_w14⟩
    have hw_w14 := hw_w7.trans (hb_w14.mono hw_w7.size)
    clear hw_w7
    replace HS := Lib.hid (HS.out.below hb_w14)
    replace HG := Lib.hid (HG.out.below hb_w14)
    replace HT := Lib.hid (HT.out.below hb_w14)
    replace HX := Lib.hid (HX.out.below hb_w14)
    clear hb_w14 
    go_wp2
    go_ret
    exact ⟨rfl, hw_w14⟩
  · go_wp2_with fail
    refine (alive_any _).mono ?_
    rintro e w15 ⟨rfl, hb_w15⟩
    have hw_w15 := hw_w7.trans (hb_w15.mono hw_w7.size)
    clear hw_w7
    replace HS := Lib.hid (HS.out.below hb_w15)
    replace HG := Lib.hid (HG.out.below hb_w15)
    replace HT := Lib.hid (HT.out.below hb_w15)
    replace HX := Lib.hid (HX.out.below hb_w15)
    clear hb_w15 
    go_wp2
    go_ret
    exact ⟨rfl, hw_w15⟩
end Go.Proofs.YtajcogpfmpehkaaGreatDoor
