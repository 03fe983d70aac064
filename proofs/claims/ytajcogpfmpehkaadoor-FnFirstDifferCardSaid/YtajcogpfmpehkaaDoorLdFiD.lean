/- The law FnFirstDiffer: the walk. -/
import Derived.Test.YtajcogpfmpehkaaDoorVeX
import Derived.Test.YtajcogpfmpehkaaDoorFdS
import Derived.Test.YtajcogpfmpehkaaDoorNwX
import Derived.Test.YtajcogpfmpehkaaDoorDxAJ
import Derived.Test.YtajcogpfmpehkaaDoorDxBT
namespace Go.Proofs.YtajcogpfmpehkaaDoor
open Go.RowKit
def DrewVL (w : World) (e : Ending) (w' : World) : Prop := ∃ v u fs gs r c, e = .returned (.tuple #[v, .bool r, u, .bool c]) ∧ Fts 0 w' v fs ∧ fs.length ≤ 61 ∧ FtOk (fun n => n ≤ 4) fs ∧ Fts 0 w' u gs ∧ gs.length ≤ 61 ∧ FtOk (fun n => n ≤ 4) gs ∧ Below w.heap.size w w'
set_option maxHeartbeats 2000000 in
set_option maxRecDepth 100000 in
theorem drawVFirstDiffer_any (bs : List Int) (v : Value) (w : World) (h : CodeAt w v bs) : Calls Tryd.prog 14 #[v] w (DrewVL w) := by
  go_enter Tryd.func14, Tryd.ntmps14
  go_wp2_with fail
  refine (open_any bs _ _ h).mono ?_
  rintro e w1 ⟨R, bs', rfl, hR, hr1, hb1⟩
  have hz1 := hb1.size
  go_wp2_with fail
  refine (versions_any R bs' 0 _ hr1 (by omega)).mono ?_
  rintro e w2 ⟨v2, u2, fs, gs, r, c, rfl, ho2, hl2, hk2, hg2, hl3, hk3, hm2⟩
  have hB : Below w.heap.size w w2 := hb1.trans (hm2.below (by omega) hR)
  have HS := Lib.hid (ho2.fts.mono (Nat.zero_le _))
  have HG := Lib.hid hg2
  have HK2 := Lib.hid hk2
  have HK3 := Lib.hid hk3
  obtain ⟨sa, sc, rfl, -, -⟩ := HS.out.form
  obtain ⟨ga, gc, rfl, -, -⟩ := HG.out.form
  clear hr1 hm2 ho2 hg2 hk2 hk3
  go_wp2_with fail
  exact bodyPost_ret (v := .tuple #[.slice sa fs.length sc, .bool r, .slice ga gs.length gc, .bool c]) (by simp [results, Tryd.results14, go_sem]) rfl ⟨_, _, fs, gs, r, c, rfl, HS.out, hl2, HK2.out, HG.out, hl3, HK3.out, hB⟩
theorem jfl_bad {fs : List Ft} {r : Bool} {p : Pk} (h : p.ok = false) : jfl fs r p = false := by
  unfold jfl
  rw [h, Bool.and_false]
  rfl
theorem fdif_same {fs gs : List Ft} {r c : Bool} (h : fdif fs r gs c = none) (hd : fsame fs r gs c ≠ -1) (p : Pk) : jfl fs r p = jfl gs c p := by
  cases hx : fparts fs r with
  | none => exact absurd (fsame_no (.inl hx)) hd
  | some x =>
    cases hy : fparts gs c with
    | none => exact absurd (fsame_no (.inr hy)) hd
    | some y =>
      cases hp : p.ok
      · rw [jfl_bad hp, jfl_bad hp]
      · exact fdif_none hx hy h p hp
set_option maxHeartbeats 4000000 in
set_option maxRecDepth 100000 in
theorem law_FnFirstDiffer (bs bs2 : List Int) (v v2 : Value) (w : World) (h : CodeAt w v bs) (h2 : CodeAt w v2 bs2) (ht : Tab w) :
    Calls Tryd.prog 4 #[v, v2] w fun e w' => e = .returned (.bool true) ∧ Below w.heap.size w w' := by
  obtain ⟨a, cap, rfl, l1, l2, -⟩ := code_cells h
  obtain ⟨a2, cap2, rfl, m1, m2, -⟩ := code_cells h2
  unfold maxLen at l2 m2
  by_cases hl : 1048576 < bs.length
  · go_enter Tryd.func4, Tryd.ntmps4
    go_wp2
    go_ret
    exact ⟨rfl, by (repeat' (first | with_reducible exact Below.refl _ _ | with_reducible assumption | with_reducible refine Below.setCell ?_ ?_ _ | with_reducible refine Below.alloc ?_ ?_ _ | with_reducible refine Below.drew ?_ | with_reducible refine belDrewN ?_ _ | with_reducible refine Below.trans ?_ (Below.mono (by assumption) ?_) | omega | (simp; omega) | (simp; done)))⟩
  by_cases hl2 : 1048576 < bs2.length
  · go_enter Tryd.func4, Tryd.ntmps4
    go_wp2
    go_ret
    exact ⟨rfl, by (repeat' (first | with_reducible exact Below.refl _ _ | with_reducible assumption | with_reducible refine Below.setCell ?_ ?_ _ | with_reducible refine Below.alloc ?_ ?_ _ | with_reducible refine Below.drew ?_ | with_reducible refine belDrewN ?_ _ | with_reducible refine Below.trans ?_ (Below.mono (by assumption) ?_) | omega | (simp; omega) | (simp; done)))⟩
  have hsd : bs2.length ≤ 1048576 := by omega
  generalize bs2.length = sd at *
  go_enter Tryd.func4, Tryd.ntmps4
  go_wp2_with fail
  refine (drawVFirstDiffer_any _ _ _ h).mono ?_
  rintro e w1 ⟨v0, u0, fs, gs, r, c, rfl, hs0, hlen, hok, hg0, hlen2, hok2, hb_w1⟩
  have hw_w1 := hb_w1
  have HS := Lib.hid (hs0)
  have HG := Lib.hid (hg0)
  have HT := Lib.hid (ht.below hb_w1)
  have HFN := Lib.hid (drawn_ftN hlen hok)
  have HGN := Lib.hid (drawn_ftN hlen2 hok2)
  have HOK := Lib.hid hok
  have HOG := Lib.hid hok2
  clear hb_w1 hs0 hg0 hok hok2 h
  obtain ⟨sa, sc, rfl, hlc_sa, hcm_sa⟩ := HS.out.form
  unfold maxLen at hcm_sa
  obtain ⟨ga, gc, rfl, hlc_ga, hcm_ga⟩ := HG.out.form
  unfold maxLen at hcm_ga
  obtain ⟨⟨p1, p2, p3, p4⟩, hp⟩ : ∃ p, fdifP fs r gs c = p := ⟨_, rfl⟩
  have HPP := Lib.hid hp
  obtain ⟨q, hq⟩ : ∃ q, (fdif fs r gs c).isSome = q := ⟨_, rfl⟩
  have HQ := Lib.hid hq
  obtain ⟨d, hd⟩ : ∃ d, fsame fs r gs c = d := ⟨_, rfl⟩
  have HD := Lib.hid hd
  clear hp hq hd
  go_wp2_with fail
  refine (implFirstDiffer_e HS.out HG.out HT.out HPP.out HQ.out).mono ?_
  rintro e w2 ⟨rfl, hb_w2⟩
  have hw_w2 := hw_w1.trans (hb_w2.mono hw_w1.size)
  clear hw_w1
  replace HS := Lib.hid (HS.out.below hb_w2)
  replace HG := Lib.hid (HG.out.below hb_w2)
  replace HT := Lib.hid (HT.out.below hb_w2)
  clear hb_w2 
  obtain ⟨Va, hVa⟩ : ∃ W, w2.alloc (.cells #[.int .i64 p1, .int .i64 p2, .int .i64 p3, .int .i64 p4] 39) = W := ⟨_, rfl⟩
  have hala : Below w2.heap.size w2 Va := by rw [← hVa]; exact (Below.refl _ _).alloc (Nat.le_refl _) _
  have hbxa : Box4 Va w2.heap.size p1 p2 p3 p4 := by rw [← hVa]; exact Box4.new w2 p1 p2 p3 p4 _
  have hw_Va := hw_w2.trans (hala.mono hw_w2.size)
  clear hw_w2
  replace HS := Lib.hid (HS.out.below hala)
  replace HG := Lib.hid (HG.out.below hala)
  replace HT := Lib.hid (HT.out.below hala)
  have HB9 := Lib.hid (hbxa)
  clear hala hbxa
  go_wp2_with fail
  refine (specFirstDiffer_e HS.out HG.out HFN.out HGN.out HPP.out HQ.out).mono ?_
  rintro e w3 ⟨rfl, hb_w3⟩
  have hw_w3 := hw_Va.trans (hb_w3.mono hw_Va.size)
  clear hw_Va
  replace HS := Lib.hid (HS.out.below hb_w3)
  replace HG := Lib.hid (HG.out.below hb_w3)
  replace HT := Lib.hid (HT.out.below hb_w3)
  replace HB9 := Lib.hid (Box4.bel HB9.out hb_w3)
  clear hb_w3 
  obtain ⟨Vb, hVb⟩ : ∃ W, w3.alloc (.cells #[.int .i64 p1, .int .i64 p2, .int .i64 p3, .int .i64 p4] 39) = W := ⟨_, rfl⟩
  have halb : Below w3.heap.size w3 Vb := by rw [← hVb]; exact (Below.refl _ _).alloc (Nat.le_refl _) _
  have hbxb : Box4 Vb w3.heap.size p1 p2 p3 p4 := by rw [← hVb]; exact Box4.new w3 p1 p2 p3 p4 _
  have hw_Vb := hw_w3.trans (halb.mono hw_w3.size)
  clear hw_w3
  replace HS := Lib.hid (HS.out.below halb)
  replace HG := Lib.hid (HG.out.below halb)
  replace HT := Lib.hid (HT.out.below halb)
  replace HB9 := Lib.hid (Box4.bel HB9.out halb)
  have HB11 := Lib.hid (hbxb)
  clear halb hbxb
  obtain ⟨zl, z0, z1, z2, z3, zf⟩ := HB9.out
  obtain ⟨yl, y0, y1, y2, y3, yf⟩ := HB11.out
  cases q
  · have HN := Lib.hid (show fdif fs r gs c = none from Option.not_isSome_iff_eq_none.1 (by rw [HQ.out]; simp))
    have HZ := Lib.hid (show (⟨p1, p2, p3, p4⟩ : Pk) = pk0 by rw [← HPP.out, fdifP, HN.out]; rfl)
    have hpA : (fbx fs).length ≤ 61 ∧ ∀ (k' : Nat) b', (fbx fs)[k']? = some b' → b'.length ≤ 100 ∧ ∀ (j : Nat) xs, b'[j]? = some xs → xs.length ≤ 1000 := by
      unfold fbx
      split
      · refine ⟨by simp [fboxes]; omega, fun k' b' hb' => ?_⟩
        simp only [fboxes, List.getElem?_map, Option.map_eq_some_iff] at hb'
        obtain ⟨f, hf, rfl⟩ := hb'
        exact ⟨by have := (HOK.out k' f hf).1; omega, fun j xs hx => by have := (HOK.out k' f hf).2 j xs hx; omega⟩
      · exact ⟨by simp, fun k' b' hb' => by simp at hb'⟩
    have hpB : (fbx gs).length ≤ 61 ∧ ∀ (k' : Nat) b', (fbx gs)[k']? = some b' → b'.length ≤ 100 ∧ ∀ (j : Nat) xs, b'[j]? = some xs → xs.length ≤ 1000 := by
      unfold fbx
      split
      · refine ⟨by simp [fboxes]; omega, fun k' b' hb' => ?_⟩
        simp only [fboxes, List.getElem?_map, Option.map_eq_some_iff] at hb'
        obtain ⟨f, hf, rfl⟩ := hb'
        exact ⟨by have := (HOG.out k' f hf).1; omega, fun j xs hx => by have := (HOG.out k' f hf).2 j xs hx; omega⟩
      · exact ⟨by simp, fun k' b' hb' => by simp at hb'⟩
    have HPB := Lib.hid (show ∀ (k' : Nat) b', (fbx fs ++ fbx gs)[k']? = some b' → b'.length ≤ 100 ∧ ∀ (j : Nat) xs, b'[j]? = some xs → xs.length ≤ 1000 from fun k' b' hb' => by
      rcases List.mem_append.1 (List.mem_of_getElem? hb') with h | h
      · obtain ⟨i, hi⟩ := List.getElem?_of_mem h
        exact hpA.2 i b' hi
      · obtain ⟨i, hi⟩ := List.getElem?_of_mem h
        exact hpB.2 i b' hi)
    have HPL := Lib.hid (show (fbx fs ++ fbx gs).length ≤ 1000 by rw [List.length_append]; have := hpA.1; have := hpB.1; omega)
    have HPA := Lib.hid (show (fbx fs).length ≤ 61 from hpA.1)
    have HPC := Lib.hid (show (fbx gs).length ≤ 61 from hpB.1)
    clear hpA hpB
    have hal0 : Below Vb.heap.size Vb (Vb.alloc (.cells #[] 32)) := (Below.refl _ _).alloc (Nat.le_refl _) _
    have HL0 := Lib.hid (show BxX (fun _ => False) Vb.heap.size (Vb.alloc (.cells #[] 32)) (.slice (some ⟨Vb.heap.size, 0, none⟩) 0 0) [] from ⟨[], litOwn 32 1 enc1 (Nat.le_refl _), All2.nil⟩)
    go_wp2_with fail
    refine (implFB_lo fs _ _ (HS.out.below hal0) (HT.out.below hal0)).mono ?_
    rintro e wa ⟨v4, rfl, hx4, hba⟩
    obtain ⟨v5, wb, hrun5, hG5, hgr5, hlo5⟩ := bx_cat 45 HL0.out hba hx4 (by have := HPA.out; simp; omega) (by simp)
    have hbb : Below Vb.heap.size Vb wb := (hal0.trans (hba.mono hal0.size)).grown hgr5 (Nat.le_trans hal0.size hba.size) hlo5
    clear hgr5 hx4
    go_wp2_with (at_builtin; refine wpList_append_run rfl _ _ 45 rfl rfl rfl hrun5 ?_)
    go_wp2_with fail
    refine (implFB_lo gs _ _ (HG.out.below hbb) (HT.out.below hbb)).mono ?_
    rintro e wc ⟨v6, rfl, hx6, hbc⟩
    obtain ⟨v7, wd, hrun7, hG7, hgr7, hlo7⟩ := bx_cat 45 hG5 hbc hx6 (by have := HPA.out; have := HPC.out; simp; omega) hbb.size
    have hbd : Below Vb.heap.size Vb wd := (hbb.trans (hbc.mono hbb.size)).grown hgr7 (Nat.le_trans hbb.size hbc.size) hlo7
    have HCB := Lib.hid (show Bxs 0 wd v7 (fbx fs ++ fbx gs) from hG7.bxs)
    clear hgr7 hx6 hG7 hG5 hlo5 hlo7 hba hbc hbb hal0 HL0
    go_wp2_with (at_builtin; refine wpList_append_run rfl _ _ 45 rfl rfl rfl hrun7 ?_)
    have hw_wd := hw_Vb.trans (hbd.mono hw_Vb.size)
    clear hw_Vb
    replace HS := Lib.hid (HS.out.below hbd)
    replace HG := Lib.hid (HG.out.below hbd)
    replace HT := Lib.hid (HT.out.below hbd)
    replace HB9 := Lib.hid (Box4.bel HB9.out hbd)
    replace HB11 := Lib.hid (Box4.bel HB11.out hbd)
    clear hbd
    go_wp2_with fail
    refine (probe_big (fbx fs ++ fbx gs) v7 sd _ HCB.out hsd HPL.out HPB.out).mono ?_
    rintro e w4 ⟨⟨pa, pb, pc, pd⟩, rfl, hb_w4⟩
    have hw_w4 := hw_wd.trans (hb_w4.mono hw_wd.size)
    clear hw_wd
    replace HS := Lib.hid (HS.out.below hb_w4)
    replace HG := Lib.hid (HG.out.below hb_w4)
    replace HT := Lib.hid (HT.out.below hb_w4)
    replace HB9 := Lib.hid (Box4.bel HB9.out hb_w4)
    replace HB11 := Lib.hid (Box4.bel HB11.out hb_w4)
    replace HCB := Lib.hid (HCB.out.below hb_w4)
    clear hb_w4 
    clear HCB
    obtain ⟨W, hW⟩ : ∃ W, w4.alloc (.cells #[.int .i64 pa, .int .i64 pb, .int .i64 pc, .int .i64 pd] 39) = W := ⟨_, rfl⟩
    have hal : Below w4.heap.size w4 W := by rw [← hW]; exact (Below.refl _ _).alloc (Nat.le_refl _) _
    have hbx : Box4 W w4.heap.size pa pb pc pd := by rw [← hW]; exact Box4.new w4 pa pb pc pd _
    have hw_W := hw_w4.trans (hal.mono hw_w4.size)
    clear hw_w4
    replace HS := Lib.hid (HS.out.below hal)
    replace HG := Lib.hid (HG.out.below hal)
    replace HT := Lib.hid (HT.out.below hal)
    replace HB9 := Lib.hid (Box4.bel HB9.out hal)
    replace HB11 := Lib.hid (Box4.bel HB11.out hal)
    have HP := Lib.hid (hbx)
    clear hal hbx
    clear HPB HPL HPA HPC hrun5 hrun7
    have hz := HZ.out
    clear HZ
    cases hz
    obtain ⟨k, hk⟩ : ∃ k, jfl gs c ⟨pa, pb, pc, pd⟩ = k := ⟨_, rfl⟩
    have HK := Lib.hid hk
    have HJ := Lib.hid (fun (h9 : d ≠ -1) => (show jfl fs r ⟨pa, pb, pc, pd⟩ = k by rw [← hk]; exact fdif_same HN.out (by rw [HD.out]; exact h9) _))
    clear hk hlen hlen2 HOK HOG HFN HGN HN HPP HQ z0 z1 z2 z3 zf zl y0 y1 y2 y3 yf yl
    generalize fs.length = n at *
    generalize gs.length = m at *
    obtain ⟨hl9, u0, u1, u2, u3, uf⟩ := HB9.out
    by_cases hd1 : d = -1
    · subst hd1
      clear HJ
      obtain ⟨zl, z0, z1, z2, z3, zf⟩ := HP.out
      go_wp2_with fail
      (refine wp_region_belH (W := W) [BIs (.agg #[.int .i64 0, .int .i64 0, .int .i64 0, .int .i64 0]), BIs (.agg #[.int .i64 0, .int .i64 0, .int .i64 0, .int .i64 0]), BIs (.bool true), BIs (.bool true), BIs (.slice sa n sc), BIs (.bool r), BIs (.slice ga m gc), BIs (.bool c), (BIs (.int .i64 (-1))), BIs (.bool true), BIs (.bool true), BIs undef, BIs undef, BIs undef, BIs undef, BIs undef, BIs undef, BIs undef, BIs undef, BIs undef, BIs (.bool true), BIs (.bool true), BIs (.bool true), (BIs (.bool true)), BIs (.bool true), BIs (.bool true)] (by kernel_rfl) (fun u => by simp only [frU, Act.put, List.setIfInBounds_toArray, List.set_cons_succ, List.set_cons_zero, Nat.zero_add, Nat.reduceAdd]; exact rfl) (by kernel_rfl) ⟨bst_is _, bst_is _, bst_is _, bst_is _, bst_is _, bst_is _, bst_is _, bst_is _, (bst_is _), bst_is _, bst_is _, bst_is _, bst_is _, bst_is _, bst_is _, bst_is _, bst_is _, bst_is _, bst_is _, bst_is _, bst_is _, bst_is _, bst_is _, (bst_is _), bst_is _, bst_is _, trivial⟩ ?_ ?_; exact ⟨stH (fun u w3 hC hd => .inl ⟨rfl, fun Q K hK => by (have e0 := (hC.cell (p := ⟨w2.heap.size, 0, none⟩) hl9).trans u0; have e1 := (hC.cell (p := ⟨w2.heap.size, 1, none⟩) hl9).trans u1; have e2 := (hC.cell (p := ⟨w2.heap.size, 2, none⟩) hl9).trans u2; have e3 := (hC.cell (p := ⟨w2.heap.size, 3, none⟩) hl9).trans u3; go_step; exact hK _ _ rfl (Below.refl _ _) rfl)⟩), stH (fun u w3 hC hd => .inl ⟨rfl, fun Q K hK => by (go_step; exact hK _ _ rfl (Below.refl _ _) rfl)⟩), stH (fun u w3 hC hd => .inl ⟨rfl, fun Q K hK => by (have hu := bis (w := w3) (hd 0 rfl); rw [hu] at hK ⊢; clear hu; have hu := bis (w := w3) (hd 1 rfl); rw [hu] at hK ⊢; clear hu; go_step; exact hK _ _ rfl (Below.refl _ _) rfl)⟩), stH (fun u w3 hC hd => .inl ⟨rfl, fun Q K hK => by (have hu := bis (w := w3) (hd 2 rfl); rw [hu] at hK ⊢; clear hu; go_step; exact hK _ _ rfl (Below.refl _ _) rfl)⟩), stH (fun u w3 hC hd => .inl ⟨by (have hu := bis (w := w3) (hd 3 rfl); rw [hu]; rfl), fun Q K hK => by (go_step; exact hK _ _ rfl (Below.refl _ _) rfl)⟩), stH (fun u w3 hC hd => .inl ⟨by (have hu := bis (w := w3) (hd 3 rfl); rw [hu]; rfl), fun Q K hK => by (go_step; exact hK _ _ rfl (Below.refl _ _) rfl)⟩), stH (fun u w3 hC hd => .inl ⟨by (have hu := bis (w := w3) (hd 3 rfl); rw [hu]; rfl), fun Q K hK => by (go_step; exact hK _ _ rfl (Below.refl _ _) rfl)⟩), stH (fun u w3 hC hd => .inl ⟨by (have hu := bis (w := w3) (hd 3 rfl); rw [hu]; rfl), fun Q K hK => by (go_step; exact hK _ _ rfl (Below.refl _ _) rfl)⟩), stH (fun u w3 hC hd => .inl ⟨by (have hu := bis (w := w3) (hd 3 rfl); rw [hu]; rfl), fun Q K hK => by (have hu := bis (w := w3) (hd 4 rfl); rw [hu] at hK ⊢; clear hu; have hu := bis (w := w3) (hd 5 rfl); rw [hu] at hK ⊢; clear hu; have hu := bis (w := w3) (hd 6 rfl); rw [hu] at hK ⊢; clear hu; have hu := bis (w := w3) (hd 7 rfl); rw [hu] at hK ⊢; clear hu; go_step; refine (implFlatsSame_e (HS.out.below hC) (HG.out.below hC) (HT.out.below hC) HD.out).mono ?_; rintro e w4 ⟨rfl, hb4⟩; exact hK _ _ rfl hb4 rfl)⟩), stH (fun u w3 hC hd => .inl ⟨by (have hu := bis (w := w3) (hd 3 rfl); rw [hu]; rfl), fun Q K hK => by (have hu := bis (w := w3) (hd 8 rfl); rw [hu] at hK ⊢; clear hu; go_step; exact hK _ _ rfl (Below.refl _ _) rfl)⟩), stH (fun u w3 hC hd => .inl ⟨by (have hu := bis (w := w3) (hd 3 rfl); rw [hu]; rfl), fun Q K hK => by (have hu := bis (w := w3) (hd 9 rfl); rw [hu] at hK ⊢; clear hu; go_step; exact hK _ _ rfl (Below.refl _ _) rfl)⟩), stH (fun u w3 hC hd => .inr ⟨by (have hu := bis (w := w3) (hd 10 rfl); rw [hu]; rfl), rfl⟩), stH (fun u w3 hC hd => .inr ⟨by (have hu := bis (w := w3) (hd 10 rfl); rw [hu]; rfl), rfl⟩), stH (fun u w3 hC hd => .inr ⟨by (have hu := bis (w := w3) (hd 10 rfl); rw [hu]; rfl), rfl⟩), stH (fun u w3 hC hd => .inr ⟨by (have hu := bis (w := w3) (hd 10 rfl); rw [hu]; rfl), rfl⟩), stH (fun u w3 hC hd => .inr ⟨by (have hu := bis (w := w3) (hd 10 rfl); rw [hu]; rfl), rfl⟩), stH (fun u w3 hC hd => .inr ⟨by (have hu := bis (w := w3) (hd 10 rfl); rw [hu]; rfl), rfl⟩), stH (fun u w3 hC hd => .inr ⟨by (have hu := bis (w := w3) (hd 10 rfl); rw [hu]; rfl), rfl⟩), stH (fun u w3 hC hd => .inr ⟨by (have hu := bis (w := w3) (hd 10 rfl); rw [hu]; rfl), rfl⟩), stH (fun u w3 hC hd => .inr ⟨by (have hu := bis (w := w3) (hd 10 rfl); rw [hu]; rfl), rfl⟩), stH (fun u w3 hC hd => .inl ⟨by (have hu := bis (w := w3) (hd 3 rfl); rw [hu]; rfl), fun Q K hK => by (have hu := bis (w := w3) (hd 10 rfl); rw [hu] at hK ⊢; clear hu; go_step; exact hK _ _ rfl (Below.refl _ _) rfl)⟩), stH (fun u w3 hC hd => .inl ⟨rfl, fun Q K hK => by (have hu := bis (w := w3) (hd 3 rfl); rw [hu] at hK ⊢; clear hu; have hu := bis (w := w3) (hd 20 rfl); rw [hu] at hK ⊢; clear hu; go_step; exact hK _ _ rfl (Below.refl _ _) rfl)⟩), stH (fun u w3 hC hd => .inl ⟨rfl, fun Q K hK => by (have hu := bis (w := w3) (hd 21 rfl); rw [hu] at hK ⊢; clear hu; go_step; exact hK _ _ rfl (Below.refl _ _) rfl)⟩), stH (fun u w3 hC hd => .inl ⟨by (have hu := bis (w := w3) (hd 22 rfl); rw [hu]; rfl), fun Q K hK => by (go_step; refine (alive_any _).mono ?_; rintro e w4 ⟨rfl, hb4⟩; exact hK _ _ rfl hb4 rfl)⟩), stH (fun u w3 hC hd => .inl ⟨rfl, fun Q K hK => by (have hu := bis (w := w3) (hd 22 rfl); rw [hu] at hK ⊢; clear hu; have hu := bis (w := w3) (hd 23 rfl); rw [hu] at hK ⊢; clear hu; go_step; exact hK _ _ rfl (Below.refl _ _) rfl)⟩), stH (fun u w3 hC hd => .inl ⟨rfl, fun Q K hK => by (have hu := bis (w := w3) (hd 24 rfl); rw [hu] at hK ⊢; clear hu; go_step; exact hK _ _ rfl (Below.refl _ _) rfl)⟩), trivial⟩); intro u wz hb_wz hF; rw [bis (w := wz) (hF 0 (by decide))]; rw [bis (w := wz) (hF 1 (by decide))]; rw [bis (w := wz) (hF 2 (by decide))]; rw [bis (w := wz) (hF 3 (by decide))]; rw [bis (w := wz) (hF 4 (by decide))]; rw [bis (w := wz) (hF 5 (by decide))]; rw [bis (w := wz) (hF 6 (by decide))]; rw [bis (w := wz) (hF 7 (by decide))]; generalize u 8 = vx8 at *; rw [bis (w := wz) (hF 9 (by decide))]; rw [bis (w := wz) (hF 10 (by decide))]; rw [bis (w := wz) (hF 11 (by decide))]; rw [bis (w := wz) (hF 12 (by decide))]; rw [bis (w := wz) (hF 13 (by decide))]; rw [bis (w := wz) (hF 14 (by decide))]; rw [bis (w := wz) (hF 15 (by decide))]; rw [bis (w := wz) (hF 16 (by decide))]; rw [bis (w := wz) (hF 17 (by decide))]; rw [bis (w := wz) (hF 18 (by decide))]; rw [bis (w := wz) (hF 19 (by decide))]; rw [bis (w := wz) (hF 20 (by decide))]; rw [bis (w := wz) (hF 21 (by decide))]; rw [bis (w := wz) (hF 22 (by decide))]; generalize u 23 = vx23 at *; rw [bis (w := wz) (hF 24 (by decide))]; rw [bis (w := wz) (hF 25 (by decide))]; clear hF
      have hw_wz := hw_W.trans (hb_wz.mono hw_W.size)
      clear hw_W
      replace HS := Lib.hid (HS.out.below hb_wz)
      replace HG := Lib.hid (HG.out.below hb_wz)
      replace HT := Lib.hid (HT.out.below hb_wz)
      replace HB9 := Lib.hid (Box4.bel HB9.out hb_wz)
      replace HB11 := Lib.hid (Box4.bel HB11.out hb_wz)
      replace HP := Lib.hid (Box4.bel HP.out hb_wz)
      go_wp2
      go_ret
      exact ⟨rfl, hw_wz⟩
    · have hj := Lib.hid (HJ.out hd1)
      have hdb : (d == -1) = false := beq_eq_false_iff_ne.2 hd1
      clear HJ
      cases k
      · obtain ⟨zl, z0, z1, z2, z3, zf⟩ := HP.out
        go_wp2_with fail
        (refine wp_region_belH (W := W) [BIs (.agg #[.int .i64 0, .int .i64 0, .int .i64 0, .int .i64 0]), BIs (.agg #[.int .i64 0, .int .i64 0, .int .i64 0, .int .i64 0]), BIs (.bool true), BIs (.bool true), BIs (.slice sa n sc), BIs (.bool r), BIs (.slice ga m gc), BIs (.bool c), (BIs (.int .i64 d)), (BIs (.bool false)), BIs (.bool false), BIs (.slice sa n sc), BIs (.bool r), BIs (.agg #[.int .i64 pa, .int .i64 pb, .int .i64 pc, .int .i64 pd]), (BIs (.bool false)), BIs (.slice ga m gc), BIs (.bool c), BIs (.agg #[.int .i64 pa, .int .i64 pb, .int .i64 pc, .int .i64 pd]), (BIs (.bool false)), BIs (.bool true), BIs (.bool true), BIs (.bool true), BIs (.bool true), (BIs (.bool true)), BIs (.bool true), BIs (.bool true)] (by kernel_rfl) (fun u => by simp only [frU, Act.put, List.setIfInBounds_toArray, List.set_cons_succ, List.set_cons_zero, Nat.zero_add, Nat.reduceAdd]; exact rfl) (by kernel_rfl) ⟨bst_is _, bst_is _, bst_is _, bst_is _, bst_is _, bst_is _, bst_is _, bst_is _, (bst_is _), (bst_is _), bst_is _, bst_is _, bst_is _, bst_is _, (bst_is _), bst_is _, bst_is _, bst_is _, (bst_is _), bst_is _, bst_is _, bst_is _, bst_is _, (bst_is _), bst_is _, bst_is _, trivial⟩ ?_ ?_; exact ⟨stH (fun u w3 hC hd => .inl ⟨rfl, fun Q K hK => by (have e0 := (hC.cell (p := ⟨w2.heap.size, 0, none⟩) hl9).trans u0; have e1 := (hC.cell (p := ⟨w2.heap.size, 1, none⟩) hl9).trans u1; have e2 := (hC.cell (p := ⟨w2.heap.size, 2, none⟩) hl9).trans u2; have e3 := (hC.cell (p := ⟨w2.heap.size, 3, none⟩) hl9).trans u3; go_step; exact hK _ _ rfl (Below.refl _ _) rfl)⟩), stH (fun u w3 hC hd => .inl ⟨rfl, fun Q K hK => by (go_step; exact hK _ _ rfl (Below.refl _ _) rfl)⟩), stH (fun u w3 hC hd => .inl ⟨rfl, fun Q K hK => by (have hu := bis (w := w3) (hd 0 rfl); rw [hu] at hK ⊢; clear hu; have hu := bis (w := w3) (hd 1 rfl); rw [hu] at hK ⊢; clear hu; go_step; exact hK _ _ rfl (Below.refl _ _) rfl)⟩), stH (fun u w3 hC hd => .inl ⟨rfl, fun Q K hK => by (have hu := bis (w := w3) (hd 2 rfl); rw [hu] at hK ⊢; clear hu; go_step; exact hK _ _ rfl (Below.refl _ _) rfl)⟩), stH (fun u w3 hC hd => .inl ⟨by (have hu := bis (w := w3) (hd 3 rfl); rw [hu]; rfl), fun Q K hK => by (go_step; exact hK _ _ rfl (Below.refl _ _) rfl)⟩), stH (fun u w3 hC hd => .inl ⟨by (have hu := bis (w := w3) (hd 3 rfl); rw [hu]; rfl), fun Q K hK => by (go_step; exact hK _ _ rfl (Below.refl _ _) rfl)⟩), stH (fun u w3 hC hd => .inl ⟨by (have hu := bis (w := w3) (hd 3 rfl); rw [hu]; rfl), fun Q K hK => by (go_step; exact hK _ _ rfl (Below.refl _ _) rfl)⟩), stH (fun u w3 hC hd => .inl ⟨by (have hu := bis (w := w3) (hd 3 rfl); rw [hu]; rfl), fun Q K hK => by (go_step; exact hK _ _ rfl (Below.refl _ _) rfl)⟩), stH (fun u w3 hC hd => .inl ⟨by (have hu := bis (w := w3) (hd 3 rfl); rw [hu]; rfl), fun Q K hK => by (have hu := bis (w := w3) (hd 4 rfl); rw [hu] at hK ⊢; clear hu; have hu := bis (w := w3) (hd 5 rfl); rw [hu] at hK ⊢; clear hu; have hu := bis (w := w3) (hd 6 rfl); rw [hu] at hK ⊢; clear hu; have hu := bis (w := w3) (hd 7 rfl); rw [hu] at hK ⊢; clear hu; go_step; refine (implFlatsSame_e (HS.out.below hC) (HG.out.below hC) (HT.out.below hC) HD.out).mono ?_; rintro e w4 ⟨rfl, hb4⟩; exact hK _ _ rfl hb4 rfl)⟩), stH (fun u w3 hC hd => .inl ⟨by (have hu := bis (w := w3) (hd 3 rfl); rw [hu]; rfl), fun Q K hK => by (have hu := bis (w := w3) (hd 8 rfl); rw [hu] at hK ⊢; clear hu; go_step; exact hK _ _ rfl (Below.refl _ _) (by first | exact congrArg Value.bool hdb | exact congrArg Value.bool (decide_eq_false hd1) | rfl))⟩), stH (fun u w3 hC hd => .inl ⟨by (have hu := bis (w := w3) (hd 3 rfl); rw [hu]; rfl), fun Q K hK => by (have hu := bis (w := w3) (hd 9 rfl); rw [hu] at hK ⊢; clear hu; go_step; exact hK _ _ rfl (Below.refl _ _) rfl)⟩), stH (fun u w3 hC hd => .inl ⟨by (have hu := bis (w := w3) (hd 10 rfl); rw [hu]; rfl), fun Q K hK => by (go_step; exact hK _ _ rfl (Below.refl _ _) rfl)⟩), stH (fun u w3 hC hd => .inl ⟨by (have hu := bis (w := w3) (hd 10 rfl); rw [hu]; rfl), fun Q K hK => by (go_step; exact hK _ _ rfl (Below.refl _ _) rfl)⟩), stH (fun u w3 hC hd => .inl ⟨by (have hu := bis (w := w3) (hd 10 rfl); rw [hu]; rfl), fun Q K hK => by (have e0 := (hC.cell (p := ⟨w4.heap.size, 0, none⟩) zl).trans z0; have e1 := (hC.cell (p := ⟨w4.heap.size, 1, none⟩) zl).trans z1; have e2 := (hC.cell (p := ⟨w4.heap.size, 2, none⟩) zl).trans z2; have e3 := (hC.cell (p := ⟨w4.heap.size, 3, none⟩) zl).trans z3; go_step; exact hK _ _ rfl (Below.refl _ _) rfl)⟩), stH (fun u w3 hC hd => .inl ⟨by (have hu := bis (w := w3) (hd 10 rfl); rw [hu]; rfl), fun Q K hK => by (have hu := bis (w := w3) (hd 11 rfl); rw [hu] at hK ⊢; clear hu; have hu := bis (w := w3) (hd 12 rfl); rw [hu] at hK ⊢; clear hu; have hu := bis (w := w3) (hd 13 rfl); rw [hu] at hK ⊢; clear hu; go_step; refine (implJF_b (HS.out.below hC) (HT.out.below hC) hj.out).mono ?_; rintro e w4 ⟨rfl, hb4⟩; exact hK _ _ rfl hb4 rfl)⟩), stH (fun u w3 hC hd => .inl ⟨by (have hu := bis (w := w3) (hd 10 rfl); rw [hu]; rfl), fun Q K hK => by (go_step; exact hK _ _ rfl (Below.refl _ _) rfl)⟩), stH (fun u w3 hC hd => .inl ⟨by (have hu := bis (w := w3) (hd 10 rfl); rw [hu]; rfl), fun Q K hK => by (go_step; exact hK _ _ rfl (Below.refl _ _) rfl)⟩), stH (fun u w3 hC hd => .inl ⟨by (have hu := bis (w := w3) (hd 10 rfl); rw [hu]; rfl), fun Q K hK => by (have e0 := (hC.cell (p := ⟨w4.heap.size, 0, none⟩) zl).trans z0; have e1 := (hC.cell (p := ⟨w4.heap.size, 1, none⟩) zl).trans z1; have e2 := (hC.cell (p := ⟨w4.heap.size, 2, none⟩) zl).trans z2; have e3 := (hC.cell (p := ⟨w4.heap.size, 3, none⟩) zl).trans z3; go_step; exact hK _ _ rfl (Below.refl _ _) rfl)⟩), stH (fun u w3 hC hd => .inl ⟨by (have hu := bis (w := w3) (hd 10 rfl); rw [hu]; rfl), fun Q K hK => by (have hu := bis (w := w3) (hd 15 rfl); rw [hu] at hK ⊢; clear hu; have hu := bis (w := w3) (hd 16 rfl); rw [hu] at hK ⊢; clear hu; have hu := bis (w := w3) (hd 17 rfl); rw [hu] at hK ⊢; clear hu; go_step; refine (implJF_b (HG.out.below hC) (HT.out.below hC) HK.out).mono ?_; rintro e w4 ⟨rfl, hb4⟩; exact hK _ _ rfl hb4 rfl)⟩), stH (fun u w3 hC hd => .inl ⟨by (have hu := bis (w := w3) (hd 10 rfl); rw [hu]; rfl), fun Q K hK => by (have hu := bis (w := w3) (hd 14 rfl); rw [hu] at hK ⊢; clear hu; have hu := bis (w := w3) (hd 18 rfl); rw [hu] at hK ⊢; clear hu; go_step; exact hK _ _ rfl (Below.refl _ _) rfl)⟩), stH (fun u w3 hC hd => .inl ⟨by (have hu := bis (w := w3) (hd 3 rfl); rw [hu]; rfl), fun Q K hK => by (have hu := bis (w := w3) (hd 10 rfl); rw [hu] at hK ⊢; clear hu; have hu := bis (w := w3) (hd 19 rfl); rw [hu] at hK ⊢; clear hu; go_step; exact hK _ _ rfl (Below.refl _ _) rfl)⟩), stH (fun u w3 hC hd => .inl ⟨rfl, fun Q K hK => by (have hu := bis (w := w3) (hd 3 rfl); rw [hu] at hK ⊢; clear hu; have hu := bis (w := w3) (hd 20 rfl); rw [hu] at hK ⊢; clear hu; go_step; exact hK _ _ rfl (Below.refl _ _) rfl)⟩), stH (fun u w3 hC hd => .inl ⟨rfl, fun Q K hK => by (have hu := bis (w := w3) (hd 21 rfl); rw [hu] at hK ⊢; clear hu; go_step; exact hK _ _ rfl (Below.refl _ _) rfl)⟩), stH (fun u w3 hC hd => .inl ⟨by (have hu := bis (w := w3) (hd 22 rfl); rw [hu]; rfl), fun Q K hK => by (go_step; refine (alive_any _).mono ?_; rintro e w4 ⟨rfl, hb4⟩; exact hK _ _ rfl hb4 rfl)⟩), stH (fun u w3 hC hd => .inl ⟨rfl, fun Q K hK => by (have hu := bis (w := w3) (hd 22 rfl); rw [hu] at hK ⊢; clear hu; have hu := bis (w := w3) (hd 23 rfl); rw [hu] at hK ⊢; clear hu; go_step; exact hK _ _ rfl (Below.refl _ _) rfl)⟩), stH (fun u w3 hC hd => .inl ⟨rfl, fun Q K hK => by (have hu := bis (w := w3) (hd 24 rfl); rw [hu] at hK ⊢; clear hu; go_step; exact hK _ _ rfl (Below.refl _ _) rfl)⟩), trivial⟩); intro u wz hb_wz hF; rw [bis (w := wz) (hF 0 (by decide))]; rw [bis (w := wz) (hF 1 (by decide))]; rw [bis (w := wz) (hF 2 (by decide))]; rw [bis (w := wz) (hF 3 (by decide))]; rw [bis (w := wz) (hF 4 (by decide))]; rw [bis (w := wz) (hF 5 (by decide))]; rw [bis (w := wz) (hF 6 (by decide))]; rw [bis (w := wz) (hF 7 (by decide))]; generalize u 8 = vx8 at *; generalize u 9 = vx9 at *; rw [bis (w := wz) (hF 10 (by decide))]; rw [bis (w := wz) (hF 11 (by decide))]; rw [bis (w := wz) (hF 12 (by decide))]; rw [bis (w := wz) (hF 13 (by decide))]; generalize u 14 = vx14 at *; rw [bis (w := wz) (hF 15 (by decide))]; rw [bis (w := wz) (hF 16 (by decide))]; rw [bis (w := wz) (hF 17 (by decide))]; generalize u 18 = vx18 at *; rw [bis (w := wz) (hF 19 (by decide))]; rw [bis (w := wz) (hF 20 (by decide))]; rw [bis (w := wz) (hF 21 (by decide))]; rw [bis (w := wz) (hF 22 (by decide))]; generalize u 23 = vx23 at *; rw [bis (w := wz) (hF 24 (by decide))]; rw [bis (w := wz) (hF 25 (by decide))]; clear hF
        have hw_wz := hw_W.trans (hb_wz.mono hw_W.size)
        clear hw_W
        replace HS := Lib.hid (HS.out.below hb_wz)
        replace HG := Lib.hid (HG.out.below hb_wz)
        replace HT := Lib.hid (HT.out.below hb_wz)
        replace HB9 := Lib.hid (Box4.bel HB9.out hb_wz)
        replace HB11 := Lib.hid (Box4.bel HB11.out hb_wz)
        replace HP := Lib.hid (Box4.bel HP.out hb_wz)
        go_wp2
        go_ret
        exact ⟨rfl, hw_wz⟩
      · obtain ⟨zl, z0, z1, z2, z3, zf⟩ := HP.out
        go_wp2_with fail
        (refine wp_region_belH (W := W) [BIs (.agg #[.int .i64 0, .int .i64 0, .int .i64 0, .int .i64 0]), BIs (.agg #[.int .i64 0, .int .i64 0, .int .i64 0, .int .i64 0]), BIs (.bool true), BIs (.bool true), BIs (.slice sa n sc), BIs (.bool r), BIs (.slice ga m gc), BIs (.bool c), (BIs (.int .i64 d)), (BIs (.bool false)), BIs (.bool false), BIs (.slice sa n sc), BIs (.bool r), BIs (.agg #[.int .i64 pa, .int .i64 pb, .int .i64 pc, .int .i64 pd]), (BIs (.bool true)), BIs (.slice ga m gc), BIs (.bool c), BIs (.agg #[.int .i64 pa, .int .i64 pb, .int .i64 pc, .int .i64 pd]), (BIs (.bool true)), BIs (.bool true), BIs (.bool true), BIs (.bool true), BIs (.bool true), (BIs (.bool true)), BIs (.bool true), BIs (.bool true)] (by kernel_rfl) (fun u => by simp only [frU, Act.put, List.setIfInBounds_toArray, List.set_cons_succ, List.set_cons_zero, Nat.zero_add, Nat.reduceAdd]; exact rfl) (by kernel_rfl) ⟨bst_is _, bst_is _, bst_is _, bst_is _, bst_is _, bst_is _, bst_is _, bst_is _, (bst_is _), (bst_is _), bst_is _, bst_is _, bst_is _, bst_is _, (bst_is _), bst_is _, bst_is _, bst_is _, (bst_is _), bst_is _, bst_is _, bst_is _, bst_is _, (bst_is _), bst_is _, bst_is _, trivial⟩ ?_ ?_; exact ⟨stH (fun u w3 hC hd => .inl ⟨rfl, fun Q K hK => by (have e0 := (hC.cell (p := ⟨w2.heap.size, 0, none⟩) hl9).trans u0; have e1 := (hC.cell (p := ⟨w2.heap.size, 1, none⟩) hl9).trans u1; have e2 := (hC.cell (p := ⟨w2.heap.size, 2, none⟩) hl9).trans u2; have e3 := (hC.cell (p := ⟨w2.heap.size, 3, none⟩) hl9).trans u3; go_step; exact hK _ _ rfl (Below.refl _ _) rfl)⟩), stH (fun u w3 hC hd => .inl ⟨rfl, fun Q K hK => by (go_step; exact hK _ _ rfl (Below.refl _ _) rfl)⟩), stH (fun u w3 hC hd => .inl ⟨rfl, fun Q K hK => by (have hu := bis (w := w3) (hd 0 rfl); rw [hu] at hK ⊢; clear hu; have hu := bis (w := w3) (hd 1 rfl); rw [hu] at hK ⊢; clear hu; go_step; exact hK _ _ rfl (Below.refl _ _) rfl)⟩), stH (fun u w3 hC hd => .inl ⟨rfl, fun Q K hK => by (have hu := bis (w := w3) (hd 2 rfl); rw [hu] at hK ⊢; clear hu; go_step; exact hK _ _ rfl (Below.refl _ _) rfl)⟩), stH (fun u w3 hC hd => .inl ⟨by (have hu := bis (w := w3) (hd 3 rfl); rw [hu]; rfl), fun Q K hK => by (go_step; exact hK _ _ rfl (Below.refl _ _) rfl)⟩), stH (fun u w3 hC hd => .inl ⟨by (have hu := bis (w := w3) (hd 3 rfl); rw [hu]; rfl), fun Q K hK => by (go_step; exact hK _ _ rfl (Below.refl _ _) rfl)⟩), stH (fun u w3 hC hd => .inl ⟨by (have hu := bis (w := w3) (hd 3 rfl); rw [hu]; rfl), fun Q K hK => by (go_step; exact hK _ _ rfl (Below.refl _ _) rfl)⟩), stH (fun u w3 hC hd => .inl ⟨by (have hu := bis (w := w3) (hd 3 rfl); rw [hu]; rfl), fun Q K hK => by (go_step; exact hK _ _ rfl (Below.refl _ _) rfl)⟩), stH (fun u w3 hC hd => .inl ⟨by (have hu := bis (w := w3) (hd 3 rfl); rw [hu]; rfl), fun Q K hK => by (have hu := bis (w := w3) (hd 4 rfl); rw [hu] at hK ⊢; clear hu; have hu := bis (w := w3) (hd 5 rfl); rw [hu] at hK ⊢; clear hu; have hu := bis (w := w3) (hd 6 rfl); rw [hu] at hK ⊢; clear hu; have hu := bis (w := w3) (hd 7 rfl); rw [hu] at hK ⊢; clear hu; go_step; refine (implFlatsSame_e (HS.out.below hC) (HG.out.below hC) (HT.out.below hC) HD.out).mono ?_; rintro e w4 ⟨rfl, hb4⟩; exact hK _ _ rfl hb4 rfl)⟩), stH (fun u w3 hC hd => .inl ⟨by (have hu := bis (w := w3) (hd 3 rfl); rw [hu]; rfl), fun Q K hK => by (have hu := bis (w := w3) (hd 8 rfl); rw [hu] at hK ⊢; clear hu; go_step; exact hK _ _ rfl (Below.refl _ _) (by first | exact congrArg Value.bool hdb | exact congrArg Value.bool (decide_eq_false hd1) | rfl))⟩), stH (fun u w3 hC hd => .inl ⟨by (have hu := bis (w := w3) (hd 3 rfl); rw [hu]; rfl), fun Q K hK => by (have hu := bis (w := w3) (hd 9 rfl); rw [hu] at hK ⊢; clear hu; go_step; exact hK _ _ rfl (Below.refl _ _) rfl)⟩), stH (fun u w3 hC hd => .inl ⟨by (have hu := bis (w := w3) (hd 10 rfl); rw [hu]; rfl), fun Q K hK => by (go_step; exact hK _ _ rfl (Below.refl _ _) rfl)⟩), stH (fun u w3 hC hd => .inl ⟨by (have hu := bis (w := w3) (hd 10 rfl); rw [hu]; rfl), fun Q K hK => by (go_step; exact hK _ _ rfl (Below.refl _ _) rfl)⟩), stH (fun u w3 hC hd => .inl ⟨by (have hu := bis (w := w3) (hd 10 rfl); rw [hu]; rfl), fun Q K hK => by (have e0 := (hC.cell (p := ⟨w4.heap.size, 0, none⟩) zl).trans z0; have e1 := (hC.cell (p := ⟨w4.heap.size, 1, none⟩) zl).trans z1; have e2 := (hC.cell (p := ⟨w4.heap.size, 2, none⟩) zl).trans z2; have e3 := (hC.cell (p := ⟨w4.heap.size, 3, none⟩) zl).trans z3; go_step; exact hK _ _ rfl (Below.refl _ _) rfl)⟩), stH (fun u w3 hC hd => .inl ⟨by (have hu := bis (w := w3) (hd 10 rfl); rw [hu]; rfl), fun Q K hK => by (have hu := bis (w := w3) (hd 11 rfl); rw [hu] at hK ⊢; clear hu; have hu := bis (w := w3) (hd 12 rfl); rw [hu] at hK ⊢; clear hu; have hu := bis (w := w3) (hd 13 rfl); rw [hu] at hK ⊢; clear hu; go_step; refine (implJF_b (HS.out.below hC) (HT.out.below hC) hj.out).mono ?_; rintro e w4 ⟨rfl, hb4⟩; exact hK _ _ rfl hb4 rfl)⟩), stH (fun u w3 hC hd => .inl ⟨by (have hu := bis (w := w3) (hd 10 rfl); rw [hu]; rfl), fun Q K hK => by (go_step; exact hK _ _ rfl (Below.refl _ _) rfl)⟩), stH (fun u w3 hC hd => .inl ⟨by (have hu := bis (w := w3) (hd 10 rfl); rw [hu]; rfl), fun Q K hK => by (go_step; exact hK _ _ rfl (Below.refl _ _) rfl)⟩), stH (fun u w3 hC hd => .inl ⟨by (have hu := bis (w := w3) (hd 10 rfl); rw [hu]; rfl), fun Q K hK => by (have e0 := (hC.cell (p := ⟨w4.heap.size, 0, none⟩) zl).trans z0; have e1 := (hC.cell (p := ⟨w4.heap.size, 1, none⟩) zl).trans z1; have e2 := (hC.cell (p := ⟨w4.heap.size, 2, none⟩) zl).trans z2; have e3 := (hC.cell (p := ⟨w4.heap.size, 3, none⟩) zl).trans z3; go_step; exact hK _ _ rfl (Below.refl _ _) rfl)⟩), stH (fun u w3 hC hd => .inl ⟨by (have hu := bis (w := w3) (hd 10 rfl); rw [hu]; rfl), fun Q K hK => by (have hu := bis (w := w3) (hd 15 rfl); rw [hu] at hK ⊢; clear hu; have hu := bis (w := w3) (hd 16 rfl); rw [hu] at hK ⊢; clear hu; have hu := bis (w := w3) (hd 17 rfl); rw [hu] at hK ⊢; clear hu; go_step; refine (implJF_b (HG.out.below hC) (HT.out.below hC) HK.out).mono ?_; rintro e w4 ⟨rfl, hb4⟩; exact hK _ _ rfl hb4 rfl)⟩), stH (fun u w3 hC hd => .inl ⟨by (have hu := bis (w := w3) (hd 10 rfl); rw [hu]; rfl), fun Q K hK => by (have hu := bis (w := w3) (hd 14 rfl); rw [hu] at hK ⊢; clear hu; have hu := bis (w := w3) (hd 18 rfl); rw [hu] at hK ⊢; clear hu; go_step; exact hK _ _ rfl (Below.refl _ _) rfl)⟩), stH (fun u w3 hC hd => .inl ⟨by (have hu := bis (w := w3) (hd 3 rfl); rw [hu]; rfl), fun Q K hK => by (have hu := bis (w := w3) (hd 10 rfl); rw [hu] at hK ⊢; clear hu; have hu := bis (w := w3) (hd 19 rfl); rw [hu] at hK ⊢; clear hu; go_step; exact hK _ _ rfl (Below.refl _ _) rfl)⟩), stH (fun u w3 hC hd => .inl ⟨rfl, fun Q K hK => by (have hu := bis (w := w3) (hd 3 rfl); rw [hu] at hK ⊢; clear hu; have hu := bis (w := w3) (hd 20 rfl); rw [hu] at hK ⊢; clear hu; go_step; exact hK _ _ rfl (Below.refl _ _) rfl)⟩), stH (fun u w3 hC hd => .inl ⟨rfl, fun Q K hK => by (have hu := bis (w := w3) (hd 21 rfl); rw [hu] at hK ⊢; clear hu; go_step; exact hK _ _ rfl (Below.refl _ _) rfl)⟩), stH (fun u w3 hC hd => .inl ⟨by (have hu := bis (w := w3) (hd 22 rfl); rw [hu]; rfl), fun Q K hK => by (go_step; refine (alive_any _).mono ?_; rintro e w4 ⟨rfl, hb4⟩; exact hK _ _ rfl hb4 rfl)⟩), stH (fun u w3 hC hd => .inl ⟨rfl, fun Q K hK => by (have hu := bis (w := w3) (hd 22 rfl); rw [hu] at hK ⊢; clear hu; have hu := bis (w := w3) (hd 23 rfl); rw [hu] at hK ⊢; clear hu; go_step; exact hK _ _ rfl (Below.refl _ _) rfl)⟩), stH (fun u w3 hC hd => .inl ⟨rfl, fun Q K hK => by (have hu := bis (w := w3) (hd 24 rfl); rw [hu] at hK ⊢; clear hu; go_step; exact hK _ _ rfl (Below.refl _ _) rfl)⟩), trivial⟩); intro u wz hb_wz hF; rw [bis (w := wz) (hF 0 (by decide))]; rw [bis (w := wz) (hF 1 (by decide))]; rw [bis (w := wz) (hF 2 (by decide))]; rw [bis (w := wz) (hF 3 (by decide))]; rw [bis (w := wz) (hF 4 (by decide))]; rw [bis (w := wz) (hF 5 (by decide))]; rw [bis (w := wz) (hF 6 (by decide))]; rw [bis (w := wz) (hF 7 (by decide))]; generalize u 8 = vx8 at *; generalize u 9 = vx9 at *; rw [bis (w := wz) (hF 10 (by decide))]; rw [bis (w := wz) (hF 11 (by decide))]; rw [bis (w := wz) (hF 12 (by decide))]; rw [bis (w := wz) (hF 13 (by decide))]; generalize u 14 = vx14 at *; rw [bis (w := wz) (hF 15 (by decide))]; rw [bis (w := wz) (hF 16 (by decide))]; rw [bis (w := wz) (hF 17 (by decide))]; generalize u 18 = vx18 at *; rw [bis (w := wz) (hF 19 (by decide))]; rw [bis (w := wz) (hF 20 (by decide))]; rw [bis (w := wz) (hF 21 (by decide))]; rw [bis (w := wz) (hF 22 (by decide))]; generalize u 23 = vx23 at *; rw [bis (w := wz) (hF 24 (by decide))]; rw [bis (w := wz) (hF 25 (by decide))]; clear hF
        have hw_wz := hw_W.trans (hb_wz.mono hw_W.size)
        clear hw_W
        replace HS := Lib.hid (HS.out.below hb_wz)
        replace HG := Lib.hid (HG.out.below hb_wz)
        replace HT := Lib.hid (HT.out.below hb_wz)
        replace HB9 := Lib.hid (Box4.bel HB9.out hb_wz)
        replace HB11 := Lib.hid (Box4.bel HB11.out hb_wz)
        replace HP := Lib.hid (Box4.bel HP.out hb_wz)
        go_wp2
        go_ret
        exact ⟨rfl, hw_wz⟩
  · have hsm : fdif fs r gs c = some ⟨p1, p2, p3, p4⟩ := by
      obtain ⟨x, hx⟩ := Option.isSome_iff_exists.1 HQ.out
      rw [hx, ← HPP.out, fdifP, hx]
      rfl
    obtain ⟨hok9, hne⟩ := fdif_some hsm
    obtain ⟨j, hj⟩ : ∃ j, jfl fs r ⟨p1, p2, p3, p4⟩ = j := ⟨_, rfl⟩
    have HJ := Lib.hid hj
    have HK := Lib.hid (show jfl gs c ⟨p1, p2, p3, p4⟩ = !j by rw [← hj]; revert hne; cases jfl fs r ⟨p1, p2, p3, p4⟩ <;> cases jfl gs c ⟨p1, p2, p3, p4⟩ <;> simp)
    clear hsm hne hj hlen hlen2 HOK HOG HFN HGN HPP HQ HD
    generalize fs.length = n at *
    generalize gs.length = m at *
    cases j
    · go_wp2_with fail
      (refine wp_region_belG (W := Vb) [BIs (.agg #[.int .i64 p1, .int .i64 p2, .int .i64 p3, .int .i64 p4]), (BIs (.bool true)), BIs (.bool true), BIs (.slice sa n sc), BIs (.bool r), BIs (.agg #[.int .i64 p1, .int .i64 p2, .int .i64 p3, .int .i64 p4]), (BIs (.bool false)), BIs (.slice ga m gc), BIs (.bool c), BIs (.agg #[.int .i64 p1, .int .i64 p2, .int .i64 p3, .int .i64 p4]), (BIs (.bool true)), BIs (.bool true), BIs (.bool true), BIs (.bool true)] (by kernel_rfl) (fun u => by simp only [frU, Act.put, List.setIfInBounds_toArray, List.set_cons_succ, List.set_cons_zero, Nat.zero_add, Nat.reduceAdd]; exact rfl) (by kernel_rfl) ⟨bst_is _, (bst_is _), bst_is _, bst_is _, bst_is _, bst_is _, (bst_is _), bst_is _, bst_is _, bst_is _, (bst_is _), bst_is _, bst_is _, bst_is _, trivial⟩ ?_ ?_; exact ⟨stG (fun u w3 hC hd => ⟨rfl, fun Q K hK => by (have e0 := (hC.cell (p := ⟨w2.heap.size, 0, none⟩) zl).trans z0; have e1 := (hC.cell (p := ⟨w2.heap.size, 1, none⟩) zl).trans z1; have e2 := (hC.cell (p := ⟨w2.heap.size, 2, none⟩) zl).trans z2; have e3 := (hC.cell (p := ⟨w2.heap.size, 3, none⟩) zl).trans z3; go_step; exact hK _ _ rfl (Below.refl _ _) rfl)⟩), stG (fun u w3 hC hd => ⟨rfl, fun Q K hK => by (have hu := bis (w := w3) (hd 0 rfl); rw [hu] at hK ⊢; clear hu; go_step; refine (pv_b hok9 (HT.out.below hC)).mono ?_; rintro e w4 ⟨rfl, hb4⟩; exact hK _ _ rfl hb4 rfl)⟩), stG (fun u w3 hC hd => ⟨rfl, fun Q K hK => by (have hu := bis (w := w3) (hd 1 rfl); rw [hu] at hK ⊢; clear hu; go_step; exact hK _ _ rfl (Below.refl _ _) rfl)⟩), stG (fun u w3 hC hd => ⟨by (have hu := bis (w := w3) (hd 2 rfl); rw [hu]; rfl), fun Q K hK => by (go_step; exact hK _ _ rfl (Below.refl _ _) rfl)⟩), stG (fun u w3 hC hd => ⟨by (have hu := bis (w := w3) (hd 2 rfl); rw [hu]; rfl), fun Q K hK => by (go_step; exact hK _ _ rfl (Below.refl _ _) rfl)⟩), stG (fun u w3 hC hd => ⟨by (have hu := bis (w := w3) (hd 2 rfl); rw [hu]; rfl), fun Q K hK => by (have e0 := (hC.cell (p := ⟨w2.heap.size, 0, none⟩) zl).trans z0; have e1 := (hC.cell (p := ⟨w2.heap.size, 1, none⟩) zl).trans z1; have e2 := (hC.cell (p := ⟨w2.heap.size, 2, none⟩) zl).trans z2; have e3 := (hC.cell (p := ⟨w2.heap.size, 3, none⟩) zl).trans z3; go_step; exact hK _ _ rfl (Below.refl _ _) rfl)⟩), stG (fun u w3 hC hd => ⟨by (have hu := bis (w := w3) (hd 2 rfl); rw [hu]; rfl), fun Q K hK => by (have hu := bis (w := w3) (hd 3 rfl); rw [hu] at hK ⊢; clear hu; have hu := bis (w := w3) (hd 4 rfl); rw [hu] at hK ⊢; clear hu; have hu := bis (w := w3) (hd 5 rfl); rw [hu] at hK ⊢; clear hu; go_step; refine (implJF_b (HS.out.below hC) (HT.out.below hC) HJ.out).mono ?_; rintro e w4 ⟨rfl, hb4⟩; exact hK _ _ rfl hb4 rfl)⟩), stG (fun u w3 hC hd => ⟨by (have hu := bis (w := w3) (hd 2 rfl); rw [hu]; rfl), fun Q K hK => by (go_step; exact hK _ _ rfl (Below.refl _ _) rfl)⟩), stG (fun u w3 hC hd => ⟨by (have hu := bis (w := w3) (hd 2 rfl); rw [hu]; rfl), fun Q K hK => by (go_step; exact hK _ _ rfl (Below.refl _ _) rfl)⟩), stG (fun u w3 hC hd => ⟨by (have hu := bis (w := w3) (hd 2 rfl); rw [hu]; rfl), fun Q K hK => by (have e0 := (hC.cell (p := ⟨w2.heap.size, 0, none⟩) zl).trans z0; have e1 := (hC.cell (p := ⟨w2.heap.size, 1, none⟩) zl).trans z1; have e2 := (hC.cell (p := ⟨w2.heap.size, 2, none⟩) zl).trans z2; have e3 := (hC.cell (p := ⟨w2.heap.size, 3, none⟩) zl).trans z3; go_step; exact hK _ _ rfl (Below.refl _ _) rfl)⟩), stG (fun u w3 hC hd => ⟨by (have hu := bis (w := w3) (hd 2 rfl); rw [hu]; rfl), fun Q K hK => by (have hu := bis (w := w3) (hd 7 rfl); rw [hu] at hK ⊢; clear hu; have hu := bis (w := w3) (hd 8 rfl); rw [hu] at hK ⊢; clear hu; have hu := bis (w := w3) (hd 9 rfl); rw [hu] at hK ⊢; clear hu; go_step; refine (implJF_b (HG.out.below hC) (HT.out.below hC) HK.out).mono ?_; rintro e w4 ⟨rfl, hb4⟩; exact hK _ _ rfl hb4 rfl)⟩), stG (fun u w3 hC hd => ⟨by (have hu := bis (w := w3) (hd 2 rfl); rw [hu]; rfl), fun Q K hK => by (have hu := bis (w := w3) (hd 6 rfl); rw [hu] at hK ⊢; clear hu; have hu := bis (w := w3) (hd 10 rfl); rw [hu] at hK ⊢; clear hu; go_step; exact hK _ _ rfl (Below.refl _ _) rfl)⟩), stG (fun u w3 hC hd => ⟨rfl, fun Q K hK => by (have hu := bis (w := w3) (hd 2 rfl); rw [hu] at hK ⊢; clear hu; have hu := bis (w := w3) (hd 11 rfl); rw [hu] at hK ⊢; clear hu; go_step; exact hK _ _ rfl (Below.refl _ _) rfl)⟩), stG (fun u w3 hC hd => ⟨rfl, fun Q K hK => by (have hu := bis (w := w3) (hd 12 rfl); rw [hu] at hK ⊢; clear hu; go_step; exact hK _ _ rfl (Below.refl _ _) rfl)⟩), trivial⟩); intro u wz hb_wz hF; rw [bis (w := wz) (hF 0 (by decide))]; generalize u 1 = vx1 at *; rw [bis (w := wz) (hF 2 (by decide))]; rw [bis (w := wz) (hF 3 (by decide))]; rw [bis (w := wz) (hF 4 (by decide))]; rw [bis (w := wz) (hF 5 (by decide))]; generalize u 6 = vx6 at *; rw [bis (w := wz) (hF 7 (by decide))]; rw [bis (w := wz) (hF 8 (by decide))]; rw [bis (w := wz) (hF 9 (by decide))]; generalize u 10 = vx10 at *; rw [bis (w := wz) (hF 11 (by decide))]; rw [bis (w := wz) (hF 12 (by decide))]; rw [bis (w := wz) (hF 13 (by decide))]; clear hF
      have hw_wz := hw_Vb.trans (hb_wz.mono hw_Vb.size)
      clear hw_Vb
      replace HS := Lib.hid (HS.out.below hb_wz)
      replace HG := Lib.hid (HG.out.below hb_wz)
      replace HT := Lib.hid (HT.out.below hb_wz)
      replace HB9 := Lib.hid (Box4.bel HB9.out hb_wz)
      replace HB11 := Lib.hid (Box4.bel HB11.out hb_wz)
      go_wp2
      go_ret
      exact ⟨rfl, hw_wz⟩
    · go_wp2_with fail
      (refine wp_region_belG (W := Vb) [BIs (.agg #[.int .i64 p1, .int .i64 p2, .int .i64 p3, .int .i64 p4]), (BIs (.bool true)), BIs (.bool true), BIs (.slice sa n sc), BIs (.bool r), BIs (.agg #[.int .i64 p1, .int .i64 p2, .int .i64 p3, .int .i64 p4]), (BIs (.bool true)), BIs (.slice ga m gc), BIs (.bool c), BIs (.agg #[.int .i64 p1, .int .i64 p2, .int .i64 p3, .int .i64 p4]), (BIs (.bool false)), BIs (.bool true), BIs (.bool true), BIs (.bool true)] (by kernel_rfl) (fun u => by simp only [frU, Act.put, List.setIfInBounds_toArray, List.set_cons_succ, List.set_cons_zero, Nat.zero_add, Nat.reduceAdd]; exact rfl) (by kernel_rfl) ⟨bst_is _, (bst_is _), bst_is _, bst_is _, bst_is _, bst_is _, (bst_is _), bst_is _, bst_is _, bst_is _, (bst_is _), bst_is _, bst_is _, bst_is _, trivial⟩ ?_ ?_; exact ⟨stG (fun u w3 hC hd => ⟨rfl, fun Q K hK => by (have e0 := (hC.cell (p := ⟨w2.heap.size, 0, none⟩) zl).trans z0; have e1 := (hC.cell (p := ⟨w2.heap.size, 1, none⟩) zl).trans z1; have e2 := (hC.cell (p := ⟨w2.heap.size, 2, none⟩) zl).trans z2; have e3 := (hC.cell (p := ⟨w2.heap.size, 3, none⟩) zl).trans z3; go_step; exact hK _ _ rfl (Below.refl _ _) rfl)⟩), stG (fun u w3 hC hd => ⟨rfl, fun Q K hK => by (have hu := bis (w := w3) (hd 0 rfl); rw [hu] at hK ⊢; clear hu; go_step; refine (pv_b hok9 (HT.out.below hC)).mono ?_; rintro e w4 ⟨rfl, hb4⟩; exact hK _ _ rfl hb4 rfl)⟩), stG (fun u w3 hC hd => ⟨rfl, fun Q K hK => by (have hu := bis (w := w3) (hd 1 rfl); rw [hu] at hK ⊢; clear hu; go_step; exact hK _ _ rfl (Below.refl _ _) rfl)⟩), stG (fun u w3 hC hd => ⟨by (have hu := bis (w := w3) (hd 2 rfl); rw [hu]; rfl), fun Q K hK => by (go_step; exact hK _ _ rfl (Below.refl _ _) rfl)⟩), stG (fun u w3 hC hd => ⟨by (have hu := bis (w := w3) (hd 2 rfl); rw [hu]; rfl), fun Q K hK => by (go_step; exact hK _ _ rfl (Below.refl _ _) rfl)⟩), stG (fun u w3 hC hd => ⟨by (have hu := bis (w := w3) (hd 2 rfl); rw [hu]; rfl), fun Q K hK => by (have e0 := (hC.cell (p := ⟨w2.heap.size, 0, none⟩) zl).trans z0; have e1 := (hC.cell (p := ⟨w2.heap.size, 1, none⟩) zl).trans z1; have e2 := (hC.cell (p := ⟨w2.heap.size, 2, none⟩) zl).trans z2; have e3 := (hC.cell (p := ⟨w2.heap.size, 3, none⟩) zl).trans z3; go_step; exact hK _ _ rfl (Below.refl _ _) rfl)⟩), stG (fun u w3 hC hd => ⟨by (have hu := bis (w := w3) (hd 2 rfl); rw [hu]; rfl), fun Q K hK => by (have hu := bis (w := w3) (hd 3 rfl); rw [hu] at hK ⊢; clear hu; have hu := bis (w := w3) (hd 4 rfl); rw [hu] at hK ⊢; clear hu; have hu := bis (w := w3) (hd 5 rfl); rw [hu] at hK ⊢; clear hu; go_step; refine (implJF_b (HS.out.below hC) (HT.out.below hC) HJ.out).mono ?_; rintro e w4 ⟨rfl, hb4⟩; exact hK _ _ rfl hb4 rfl)⟩), stG (fun u w3 hC hd => ⟨by (have hu := bis (w := w3) (hd 2 rfl); rw [hu]; rfl), fun Q K hK => by (go_step; exact hK _ _ rfl (Below.refl _ _) rfl)⟩), stG (fun u w3 hC hd => ⟨by (have hu := bis (w := w3) (hd 2 rfl); rw [hu]; rfl), fun Q K hK => by (go_step; exact hK _ _ rfl (Below.refl _ _) rfl)⟩), stG (fun u w3 hC hd => ⟨by (have hu := bis (w := w3) (hd 2 rfl); rw [hu]; rfl), fun Q K hK => by (have e0 := (hC.cell (p := ⟨w2.heap.size, 0, none⟩) zl).trans z0; have e1 := (hC.cell (p := ⟨w2.heap.size, 1, none⟩) zl).trans z1; have e2 := (hC.cell (p := ⟨w2.heap.size, 2, none⟩) zl).trans z2; have e3 := (hC.cell (p := ⟨w2.heap.size, 3, none⟩) zl).trans z3; go_step; exact hK _ _ rfl (Below.refl _ _) rfl)⟩), stG (fun u w3 hC hd => ⟨by (have hu := bis (w := w3) (hd 2 rfl); rw [hu]; rfl), fun Q K hK => by (have hu := bis (w := w3) (hd 7 rfl); rw [hu] at hK ⊢; clear hu; have hu := bis (w := w3) (hd 8 rfl); rw [hu] at hK ⊢; clear hu; have hu := bis (w := w3) (hd 9 rfl); rw [hu] at hK ⊢; clear hu; go_step; refine (implJF_b (HG.out.below hC) (HT.out.below hC) HK.out).mono ?_; rintro e w4 ⟨rfl, hb4⟩; exact hK _ _ rfl hb4 rfl)⟩), stG (fun u w3 hC hd => ⟨by (have hu := bis (w := w3) (hd 2 rfl); rw [hu]; rfl), fun Q K hK => by (have hu := bis (w := w3) (hd 6 rfl); rw [hu] at hK ⊢; clear hu; have hu := bis (w := w3) (hd 10 rfl); rw [hu] at hK ⊢; clear hu; go_step; exact hK _ _ rfl (Below.refl _ _) rfl)⟩), stG (fun u w3 hC hd => ⟨rfl, fun Q K hK => by (have hu := bis (w := w3) (hd 2 rfl); rw [hu] at hK ⊢; clear hu; have hu := bis (w := w3) (hd 11 rfl); rw [hu] at hK ⊢; clear hu; go_step; exact hK _ _ rfl (Below.refl _ _) rfl)⟩), stG (fun u w3 hC hd => ⟨rfl, fun Q K hK => by (have hu := bis (w := w3) (hd 12 rfl); rw [hu] at hK ⊢; clear hu; go_step; exact hK _ _ rfl (Below.refl _ _) rfl)⟩), trivial⟩); intro u wz hb_wz hF; rw [bis (w := wz) (hF 0 (by decide))]; generalize u 1 = vx1 at *; rw [bis (w := wz) (hF 2 (by decide))]; rw [bis (w := wz) (hF 3 (by decide))]; rw [bis (w := wz) (hF 4 (by decide))]; rw [bis (w := wz) (hF 5 (by decide))]; generalize u 6 = vx6 at *; rw [bis (w := wz) (hF 7 (by decide))]; rw [bis (w := wz) (hF 8 (by decide))]; rw [bis (w := wz) (hF 9 (by decide))]; generalize u 10 = vx10 at *; rw [bis (w := wz) (hF 11 (by decide))]; rw [bis (w := wz) (hF 12 (by decide))]; rw [bis (w := wz) (hF 13 (by decide))]; clear hF
      have hw_wz := hw_Vb.trans (hb_wz.mono hw_Vb.size)
      clear hw_Vb
      replace HS := Lib.hid (HS.out.below hb_wz)
      replace HG := Lib.hid (HG.out.below hb_wz)
      replace HT := Lib.hid (HT.out.below hb_wz)
      replace HB9 := Lib.hid (Box4.bel HB9.out hb_wz)
      replace HB11 := Lib.hid (Box4.bel HB11.out hb_wz)
      go_wp2
      go_ret
      exact ⟨rfl, hw_wz⟩
end Go.Proofs.YtajcogpfmpehkaaDoor
