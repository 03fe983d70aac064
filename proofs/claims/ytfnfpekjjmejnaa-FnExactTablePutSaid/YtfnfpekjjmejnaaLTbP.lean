/- The exact law on TablePut: the walk. -/
import Derived.Test.YtfnfpekjjmejnaaLTbS
import Derived.Test.YtfnfpekjjmejnaaTbPr
import Derived.Test.YtfnfpekjjmejnaaRegB
namespace Go.Proofs.Ytfnfpekjjmejnaa
open Go.RowKit
theorem tput_len (xs : List En) (e : En) : (tput xs e).1.length ≤ 31 := by
  unfold tput
  split
  · rename_i h
    simp only [Bool.and_eq_true] at h
    have h30 := ((tvalid_iff xs).1 h.1).1
    have := place_le e.w xs
    split
    · simp; omega
    · split
      · simp; omega
      · simp; omega
  · simp
set_option maxHeartbeats 2000000 in
theorem law_FnExactTablePut (xs : List En) (v : Value) (p1 p2 p3 : Int) (w : World) (hs : Ens w v xs) :
    Calls Try.prog 11 #[v, .agg #[.int .i64 p1, .int .i64 p2, .int .i64 p3]] w fun e w' => e = .returned (.bool true) ∧ Below w.heap.size w w' := by
  obtain ⟨a, cap, rfl, hlc, hcm, -⟩ := id hs
  have hcm' := hcm; unfold maxLen at hcm'
  by_cases hn : xs.length ≤ 1048576
  · obtain ⟨ys, hys⟩ : ∃ ys, (tput xs ⟨⟨p1, p2⟩, p3⟩).1 = ys := ⟨_, rfl⟩
    obtain ⟨r, hr⟩ : ∃ r, (tput xs ⟨⟨p1, p2⟩, p3⟩).2 = r := ⟨_, rfl⟩
    have hyl : ys.length ≤ 1048576 := by
      rw [← hys]; exact Nat.le_trans (tput_len _ _) (by omega)
    have hal : Below w.heap.size w (w.alloc (.cells #[.int .i64 p1, .int .i64 p2, .int .i64 p3] 55)) := (Below.refl _ _).alloc (Nat.le_refl _) _
    obtain ⟨W, hW⟩ : ∃ W, w.alloc (.cells #[.int .i64 p1, .int .i64 p2, .int .i64 p3] 55) = W := ⟨_, rfl⟩
    have q0 : W.cell? ⟨w.heap.size, 0, none⟩ = some (.int .i64 p1) := by rw [← hW]; simp
    have q1 : W.cell? ⟨w.heap.size, 1, none⟩ = some (.int .i64 p2) := by rw [← hW]; simp
    have q2 : W.cell? ⟨w.heap.size, 2, none⟩ = some (.int .i64 p3) := by rw [← hW]; simp
    have qs : w.heap.size < W.heap.size := by rw [← hW]; simp
    rw [hW] at hal
    replace hs := hs.below hal
    go_enter Try.func11, Try.ntmps11
    go_wp2_with fail
    refine (szEntryS_any a xs.length cap 1048576 (by omega) (by omega) (by omega) W).mono ?_
    rw [lenOk _ hn]
    rintro e _ ⟨rfl, rfl⟩
    have HS := Lib.hid (show ∀ v w, Ens w v xs → Calls Try.prog 37 #[v, .agg #[.int .i64 p1, .int .i64 p2, .int .i64 p3]] w (RetEnB ys r w) from fun v w h => by have := specTP_any xs v p1 p2 p3 w h; rwa [hys, hr] at this)
    have HI := Lib.hid (show ∀ v w, Ens w v xs → Calls Try.prog 39 #[v, .agg #[.int .i64 p1, .int .i64 p2, .int .i64 p3]] w (RetEnB ys r w) from fun v w h => by have := implTP_any xs v p1 p2 p3 w h; rwa [hys, hr] at this)
    clear hys hr
    go_wp2_with fail
    (refine wp_region_bel (W := W) [BIs (.slice a xs.length cap), (fun w v => OwnEn W.heap.size w v xs), BIs (.agg #[.int .i64 p1, .int .i64 p2, .int .i64 p3]), (BIs (.agg #[.int .i64 p1, .int .i64 p2, .int .i64 p3])), (fun w v => ∃ y, v = .tuple #[y, .bool r] ∧ OwnEn W.heap.size w y ys), (fun w v => ∃ y, v = .tuple #[y, .bool r] ∧ OwnEn W.heap.size w y ys), (fun w v => OwnEn W.heap.size w v ys), BIs (.bool r), (fun w v => OwnEn W.heap.size w v ys), BIs (.bool r)] (by kernel_rfl) (fun u => by simp only [frU, Act.put, List.setIfInBounds_toArray, List.set_cons_succ, List.set_cons_zero, Nat.zero_add, Nat.reduceAdd]; exact rfl) (by kernel_rfl) ⟨bst_is _, (fun _ _ _ hb h => OwnSl.kept h hb), bst_is _, (bst_is _), (fun _ _ _ hb ⟨y, h1, h2⟩ => ⟨y, h1, OwnSl.kept h2 hb⟩), (fun _ _ _ hb ⟨y, h1, h2⟩ => ⟨y, h1, OwnSl.kept h2 hb⟩), (fun _ _ _ hb h => OwnSl.kept h hb), bst_is _, (fun _ _ _ hb h => OwnSl.kept h hb), bst_is _, trivial⟩ ?_ ?_; exact ⟨stB rfl (fun u w3 hC hd Q K hK => by (go_step; exact hK _ _ rfl (Below.refl _ _) rfl)), stB rfl (fun u w3 hC hd Q K hK => by (have hu := bis (w := w3) (hd 0 rfl); rw [hu] at hK ⊢; clear hu; go_step; refine (toEntryS_any xs _ _ (hs.below hC) hn).mono ?_; rintro e w4 ⟨v4, rfl, ho4, hb4⟩; exact hK _ _ rfl hb4 (OwnSl.mono ho4 hC.size))), stB rfl (fun u w3 hC hd Q K hK => by (have e0 := (hC.cell (p := ⟨w.heap.size, 0, none⟩) qs).trans q0; have e1 := (hC.cell (p := ⟨w.heap.size, 1, none⟩) qs).trans q1; have e2 := (hC.cell (p := ⟨w.heap.size, 2, none⟩) qs).trans q2; go_step; exact hK _ _ rfl (Below.refl _ _) rfl)), stB rfl (fun u w3 hC hd Q K hK => by (have hu := bis (w := w3) (hd 2 rfl); rw [hu] at hK ⊢; clear hu; go_step; refine (toEntry_any p1 p2 p3 _).mono ?_; rintro e w4 ⟨rfl, hb4⟩; exact hK _ _ rfl hb4 rfl)), stB rfl (fun u w3 hC hd Q K hK => by (have ho1 := hd 1 rfl; generalize u 1 = v1 at *; have hu := bis (w := w3) (hd 3 rfl); rw [hu] at hK ⊢; clear hu; go_step; refine (HS.out _ _ (OwnEn.ens ho1)).mono ?_; rintro e w4 ⟨v4, rfl, ho4, hb4⟩; exact hK _ _ rfl hb4 ⟨v4, rfl, OwnSl.mono ho4 hC.size⟩)), stB rfl (fun u w3 hC hd Q K hK => by (obtain ⟨y, hu, ho⟩ := hd 4 rfl; rw [hu] at hK ⊢; clear hu; go_step; exact hK _ _ rfl (Below.refl _ _) ⟨y, rfl, ho⟩)), stB rfl (fun u w3 hC hd Q K hK => by (obtain ⟨y, hu, ho⟩ := hd 5 rfl; rw [hu] at hK ⊢; clear hu; go_step; exact hK _ _ rfl (Below.refl _ _) ho)), stB rfl (fun u w3 hC hd Q K hK => by (obtain ⟨y, hu, -⟩ := hd 5 rfl; rw [hu] at hK ⊢; clear hu; go_step; exact hK _ _ rfl (Below.refl _ _) rfl)), stB rfl (fun u w3 hC hd Q K hK => by (have ho1 := hd 6 rfl; generalize u 6 = v1 at *; go_step; exact hK _ _ rfl (Below.refl _ _) ho1)), stB rfl (fun u w3 hC hd Q K hK => by (have hu := bis (w := w3) (hd 7 rfl); rw [hu] at hK ⊢; clear hu; go_step; exact hK _ _ rfl (Below.refl _ _) rfl)), trivial⟩); intro u w2 hb_w2 hF; rw [bis (w := w2) (hF 0 (by decide))]; generalize u 1 = vx1 at *; rw [bis (w := w2) (hF 2 (by decide))]; generalize u 3 = vx3 at *; generalize u 4 = vx4 at *; generalize u 5 = vx5 at *; generalize u 6 = vx6 at *; rw [bis (w := w2) (hF 7 (by decide))]; have ho2 := hF 8 (by decide); generalize u 8 = v2 at *; rw [bis (w := w2) (hF 9 (by decide))]; clear hF
    have hw2 := hb_w2
    go_wp2_with fail
    refine (toEntryS_any xs _ _ (hs.below hw2) hn).mono ?_
    rintro e w3 ⟨v3, rfl, ho3, hb3⟩
    have e0_3 := ((hw2.trans (hb3.mono hw2.size)).cell (p := ⟨w.heap.size, 0, none⟩) qs).trans q0
    have e1_3 := ((hw2.trans (hb3.mono hw2.size)).cell (p := ⟨w.heap.size, 1, none⟩) qs).trans q1
    have e2_3 := ((hw2.trans (hb3.mono hw2.size)).cell (p := ⟨w.heap.size, 2, none⟩) qs).trans q2
    go_wp2_with fail
    refine (toEntry_any p1 p2 p3 _).mono ?_
    rintro e w3 ⟨rfl, hc3⟩
    replace ho3 := ho3.below hc3
    replace hb3 := hb3.trans (hc3.mono hb3.size)
    clear hc3
    have hw3 := hw2.trans (hb3.mono hw2.size)
    go_wp2_with fail
    refine (HI.out _ _ ho3.ens).mono ?_
    rintro e w4 ⟨v4, rfl, ho4, hb4⟩
    have hw4 := hw3.trans (hb4.mono hw3.size)
    have ho2' := ho2.below (hb3.trans (hb4.mono hb3.size))
    go_wp2_with fail
    refine (eqEntryS_b ho4.ens ho2'.ens (decide_eq_true rfl)).mono ?_
    rintro e w5 ⟨rfl, hb5⟩
    have hw5 := hw4.trans (hb5.mono hw4.size)
    go_wp2_with fail
    refine (toEntryS_any xs _ _ (hs.below hw5) hn).mono ?_
    rintro e w6 ⟨v6, rfl, ho6, hb6⟩
    have hw6 := hw5.trans (hb6.mono hw5.size)
    have h36 : Below w3.heap.size w3 w6 := (hb4.trans (hb5.mono hb4.size)).trans (hb6.mono (Nat.le_trans hb4.size hb5.size))
    have ho3' := ho3.below h36
    go_wp2_with fail
    refine (eqEntryS_b ho3'.ens ho6.ens (decide_eq_true rfl)).mono ?_
    rintro e w7 ⟨rfl, hb7⟩
    have hw7 := hw6.trans (hb7.mono hw6.size)
    have ho3'' := ho3'.below hb7
    have h57 : Below w5.heap.size w5 w7 := hb6.trans (hb7.mono hb6.size)
    have h47 : Below w4.heap.size w4 w7 := hb5.trans (h57.mono hb5.size)
    have ho2'' := ho2'.below h47
    have ho4'' := ho4.below h47
    have l2 := ho2.lt; have l3 := ho3.lt; have l4 := ho4.lt
    have L := Lib.hid (show True ∧ (∀ k j, v2.ownBlock = some k → v3.ownBlock = some j → k ≠ j) ∧ (∀ k j, v4.ownBlock = some k → v3.ownBlock = some j → k ≠ j) ∧ (∀ k j, v2.ownBlock = some k → v4.ownBlock = some j → k ≠ j) from
      ⟨trivial, fun k j hk hj => by have := l2 k hk; have := l3 j hj; omega, fun k j hk hj => by have := l4 k hk; have := l3 j hj; omega, fun k j hk hj => by have := l2 k hk; have := l4 j hj; have := hb3.size; omega⟩)
    clear l2 l3 l4
    go_wp2_with fail
    refine (markEntryS_any _ xs v3 1 w7 ho3'' hn (by omega)).mono ?_
    rintro e w8 ⟨rfl, ho3m, hg8⟩
    have hw8 := ho3''.belMark hw7 hg8 hw2.size
    have ho2m := ho2''.apart hg8 L.out.2.1
    have ho4m := ho4''.apart hg8 L.out.2.2.1
    have HG8 := Lib.hid hg8; clear hg8
    go_wp2_with fail
    refine (eqEntryS_b ho4m.ens ho2m.ens (decide_eq_true rfl)).mono ?_
    rintro e w9 ⟨rfl, hb9⟩
    have hw9 := hw8.trans (hb9.mono hw8.size)
    go_wp2_with fail
    refine (markEntryS_any _ ys v4 1 w9 (ho4m.below hb9) hyl (by omega)).mono ?_
    rintro e w10 ⟨rfl, ho4k, hg10⟩
    have hw10 := (ho4m.below hb9).belMark hw9 hg10 hw3.size
    have ho2k := (ho2m.below hb9).apart hg10 L.out.2.2.2
    have HG10 := Lib.hid hg10; clear hg10
    go_wp2_with fail
    refine (heldEntryS_any ys.length v4 1 w10 ho4k.ens hyl (by omega)).mono ?_
    rintro e _ ⟨rfl, rfl⟩
    go_wp2_with fail
    (refine wp_region_bel (W := w10) [BIs (.slice a xs.length cap), (fun w v => OwnEn w10.heap.size w v xs), BIs (.agg #[.int .i64 p1, .int .i64 p2, .int .i64 p3]), (BIs (.agg #[.int .i64 p1, .int .i64 p2, .int .i64 p3])), (fun w v => ∃ y, v = .tuple #[y, .bool r] ∧ OwnEn w10.heap.size w y ys), (fun w v => ∃ y, v = .tuple #[y, .bool r] ∧ OwnEn w10.heap.size w y ys), (fun w v => OwnEn w10.heap.size w v ys), BIs (.bool r), (fun w v => OwnEn w10.heap.size w v ys), BIs (.bool r)] (by kernel_rfl) (fun u => by simp only [frU, Act.put, List.setIfInBounds_toArray, List.set_cons_succ, List.set_cons_zero, Nat.zero_add, Nat.reduceAdd]; exact rfl) (by kernel_rfl) ⟨bst_is _, (fun _ _ _ hb h => OwnSl.kept h hb), bst_is _, (bst_is _), (fun _ _ _ hb ⟨y, h1, h2⟩ => ⟨y, h1, OwnSl.kept h2 hb⟩), (fun _ _ _ hb ⟨y, h1, h2⟩ => ⟨y, h1, OwnSl.kept h2 hb⟩), (fun _ _ _ hb h => OwnSl.kept h hb), bst_is _, (fun _ _ _ hb h => OwnSl.kept h hb), bst_is _, trivial⟩ ?_ ?_; exact ⟨stB rfl (fun u w3 hC hd Q K hK => by (go_step; exact hK _ _ rfl (Below.refl _ _) rfl)), stB rfl (fun u w3 hC hd Q K hK => by (have hu := bis (w := w3) (hd 0 rfl); rw [hu] at hK ⊢; clear hu; go_step; refine (toEntryS_any xs _ _ (hs.below (hw10.trans (hC.mono hw10.size))) hn).mono ?_; rintro e w4 ⟨v4, rfl, ho4, hb4⟩; exact hK _ _ rfl hb4 (OwnSl.mono ho4 hC.size))), stB rfl (fun u w3 hC hd Q K hK => by (have e0 := ((hw10.trans (hC.mono hw10.size)).cell (p := ⟨w.heap.size, 0, none⟩) qs).trans q0; have e1 := ((hw10.trans (hC.mono hw10.size)).cell (p := ⟨w.heap.size, 1, none⟩) qs).trans q1; have e2 := ((hw10.trans (hC.mono hw10.size)).cell (p := ⟨w.heap.size, 2, none⟩) qs).trans q2; go_step; exact hK _ _ rfl (Below.refl _ _) rfl)), stB rfl (fun u w3 hC hd Q K hK => by (have hu := bis (w := w3) (hd 2 rfl); rw [hu] at hK ⊢; clear hu; go_step; refine (toEntry_any p1 p2 p3 _).mono ?_; rintro e w4 ⟨rfl, hb4⟩; exact hK _ _ rfl hb4 rfl)), stB rfl (fun u w3 hC hd Q K hK => by (have ho1 := hd 1 rfl; generalize u 1 = v1 at *; have hu := bis (w := w3) (hd 3 rfl); rw [hu] at hK ⊢; clear hu; go_step; refine (HI.out _ _ (OwnEn.ens ho1)).mono ?_; rintro e w4 ⟨v4, rfl, ho4, hb4⟩; exact hK _ _ rfl hb4 ⟨v4, rfl, OwnSl.mono ho4 hC.size⟩)), stB rfl (fun u w3 hC hd Q K hK => by (obtain ⟨y, hu, ho⟩ := hd 4 rfl; rw [hu] at hK ⊢; clear hu; go_step; exact hK _ _ rfl (Below.refl _ _) ⟨y, rfl, ho⟩)), stB rfl (fun u w3 hC hd Q K hK => by (obtain ⟨y, hu, ho⟩ := hd 5 rfl; rw [hu] at hK ⊢; clear hu; go_step; exact hK _ _ rfl (Below.refl _ _) ho)), stB rfl (fun u w3 hC hd Q K hK => by (obtain ⟨y, hu, -⟩ := hd 5 rfl; rw [hu] at hK ⊢; clear hu; go_step; exact hK _ _ rfl (Below.refl _ _) rfl)), stB rfl (fun u w3 hC hd Q K hK => by (have ho1 := hd 6 rfl; generalize u 6 = v1 at *; go_step; exact hK _ _ rfl (Below.refl _ _) ho1)), stB rfl (fun u w3 hC hd Q K hK => by (have hu := bis (w := w3) (hd 7 rfl); rw [hu] at hK ⊢; clear hu; go_step; exact hK _ _ rfl (Below.refl _ _) rfl)), trivial⟩); intro u w12 hb_w12 hF; rw [bis (w := w12) (hF 0 (by decide))]; generalize u 1 = vx1 at *; rw [bis (w := w12) (hF 2 (by decide))]; generalize u 3 = vx3 at *; generalize u 4 = vx4 at *; generalize u 5 = vx5 at *; generalize u 6 = vx6 at *; rw [bis (w := w12) (hF 7 (by decide))]; have ho12 := hF 8 (by decide); generalize u 8 = v12 at *; rw [bis (w := w12) (hF 9 (by decide))]; clear hF
    have hw12 := hw10.trans (hb_w12.mono hw10.size)
    have h1012 : Below w10.heap.size w10 w12 := hb_w12
    go_wp2_with fail
    refine (eqEntryS_b ho12.ens (ho2k.below h1012).ens (decide_eq_true rfl)).mono ?_
    rintro e w13 ⟨rfl, hb13⟩
    have hw13 := hw12.trans (hb13.mono hw12.size)
    go_wp2_with fail
    refine (heldEntryS_any ys.length v4 1 w13 ((ho4k.below h1012).below hb13).ens hyl (by omega)).mono ?_
    rintro e _ ⟨rfl, rfl⟩
    go_wp2
    go_ret
    exact ⟨rfl, hal.trans (hw13.mono hal.size)⟩
  · go_enter Try.func11, Try.ntmps11
    go_wp2_with fail
    refine (szEntryS_any a xs.length cap 1048576 (by omega) (by omega) (by omega) _).mono ?_
    rw [lenBig _ hn]
    rintro e _ ⟨rfl, rfl⟩
    go_wp2
    go_ret
    exact ⟨rfl, by (repeat' (first | with_reducible exact Below.refl _ _ | with_reducible assumption | with_reducible refine Below.setCell ?_ ?_ _ | with_reducible refine Below.alloc ?_ ?_ _ | with_reducible refine Below.drew ?_ | with_reducible refine belDrewN ?_ _ | with_reducible refine Below.trans ?_ (Below.mono (by assumption) ?_) | omega | (simp; omega) | (simp; done)))⟩
end Go.Proofs.Ytfnfpekjjmejnaa
