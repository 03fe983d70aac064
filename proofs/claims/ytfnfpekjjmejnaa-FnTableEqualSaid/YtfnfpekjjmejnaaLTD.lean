/- The law FnTableDrop: the walk. -/
import Derived.Test.YtfnfpekjjmejnaaRdTD
import Derived.Test.YtfnfpekjjmejnaaShP
import Derived.Test.YtfnfpekjjmejnaaTbE
import Derived.Test.YtfnfpekjjmejnaaTbDr
namespace Go.Proofs.Ytfnfpekjjmejnaa
open Go.RowKit
theorem tdropK_all (xs : List En) (p : Pf) : tdropK xs p xs.length = xs.filter (fun x => !decide (x.w = p)) := by
  unfold tdropK
  rw [List.take_length]
theorem tdrop_valid {xs : List En} (hv : tvalid xs = true) (p : Pf) : tvalid (tdrop xs p) = true := by
  obtain ⟨h1, h2, h3⟩ := (tv_pw xs).1 hv
  have hs : (tdrop xs p).Sublist xs := by rw [tdrop, if_pos hv, tdropK_all]; exact List.filter_sublist
  exact (tv_pw _).2 ⟨Nat.le_trans hs.length_le h1, fun x hx => h2 x (hs.subset hx), h3.sublist hs⟩
theorem tdrop_again {xs : List En} (hv : tvalid xs = true) (p : Pf) : tdropB (tdrop xs p) p = false := by
  rw [tdropB, if_pos (tdrop_valid hv p), tdropK_all, tdrop, if_pos hv, tdropK_all]
  simp [List.filter_filter]
theorem tdrop_cases {xs : List En} (hv : tvalid xs = true) (p : Pf) : (tdropB xs p = true ∧ (tdrop xs p).length + 1 = xs.length) ∨ (tdropB xs p = false ∧ tdrop xs p = xs) := by
  cases hf : foundAt xs p
  · exact .inr ⟨(drop_none hv hf).2, (drop_none hv hf).1⟩
  · obtain ⟨h1, h2, h3⟩ := drop_found hv hf
    refine .inl ⟨h3, ?_⟩
    rw [h2]
    simp; omega
set_option maxRecDepth 100000 in
set_option maxHeartbeats 4000000 in
theorem law_FnTableDrop (bs : List Int) (v : Value) (w : World) (h : CodeAt w v bs) :
    Calls Try.prog 8 #[v] w fun e w' => e = .returned (.bool true) ∧ Below w.heap.size w w' := by
  have h' := h
  obtain ⟨a, cap, rfl, l1, l2, hx⟩ := code_cells h'
  clear hx h'
  unfold maxLen at l2
  by_cases hl : 1048576 < bs.length
  · go_enter Try.func8, Try.ntmps8
    go_wp2
    go_ret
    exact ⟨rfl, by (repeat' (first | with_reducible exact Below.refl _ _ | with_reducible assumption | with_reducible refine Below.setCell ?_ ?_ _ | with_reducible refine Below.alloc ?_ ?_ _ | with_reducible refine Below.drew ?_ | with_reducible refine belDrewN ?_ _ | with_reducible refine Below.trans ?_ (Below.mono (by assumption) ?_) | omega | (simp; omega) | (simp; done)))⟩
  · go_enter Try.func8, Try.ntmps8
    go_wp2_with fail
    refine (drawTD_any _ _ _ h).mono ?_
    rintro e w0 ⟨v0, xs, p1, p2, rfl, ho, hlen, hb0⟩
    have hz0 := hb0.size
    have hs0 := OwnEn.ens ho
    have hal : Below w0.heap.size w0 (w0.alloc (.cells #[.int .i64 p1, .int .i64 p2] 33)) := (Below.refl _ _).alloc (Nat.le_refl _) _
    obtain ⟨W0, hW⟩ : ∃ W0, w0.alloc (.cells #[.int .i64 p1, .int .i64 p2] 33) = W0 := ⟨_, rfl⟩
    have q0 : W0.cell? ⟨w0.heap.size, 0, none⟩ = some (.int .i64 p1) := by rw [← hW]; simp
    have q1 : W0.cell? ⟨w0.heap.size, 1, none⟩ = some (.int .i64 p2) := by rw [← hW]; simp
    have qs : w0.heap.size < W0.heap.size := by rw [← hW]; simp
    rw [hW] at hal
    have hs := hs0.below hal
    have hw0 : Below w.heap.size w W0 := hb0.trans (hal.mono hz0)
    clear ho h hs0 hal hb0
    obtain ⟨zs, hzs⟩ : ∃ zs, tdrop xs ⟨p1, p2⟩ = zs := ⟨_, rfl⟩
    obtain ⟨r, hr⟩ : ∃ r, tdropB xs ⟨p1, p2⟩ = r := ⟨_, rfl⟩
    go_wp2_with fail
    refine (implTD_any xs _ p1 p2 _ hs).mono ?_
    rw [hzs, hr]
    rintro e w1 ⟨v1, rfl, ho1, hb1⟩
    have hz1 := hb1.size
    have q0_1 := (hb1.cell (p := ⟨w0.heap.size, 0, none⟩) qs).trans q0
    have q1_1 := (hb1.cell (p := ⟨w0.heap.size, 1, none⟩) qs).trans q1
    have hs1 : Ens w1 v1 zs := OwnEn.ens ho1
    clear ho1
    go_wp2_with fail
    refine (specTD_any xs _ p1 p2 _ (hs.below hb1)).mono ?_
    rw [hzs, hr]
    rintro e w2 ⟨v2, rfl, ho2, hb2⟩
    have hz2 := hb2.size
    have hs2 := OwnEn.ens ho2
    clear ho2
    go_wp2_with fail
    refine (sameTable_eq zs _ _ _ (hs1.below hb2) hs2).mono ?_
    rintro e w3 ⟨rfl, hb3⟩
    have hq3 : Below W0.heap.size W0 w3 := (hb1.trans (hb2.mono hz1)).trans (hb3.mono (by omega))
    have hx3 : Ens w3 v1 zs := (hs1.below hb2).below hb3
    have hl3 := hs.below hq3
    have hw3 : Below w.heap.size w w3 := hw0.trans (hq3.mono hw0.size)
    have q0_3 := (hq3.cell (p := ⟨w0.heap.size, 0, none⟩) qs).trans q0
    have q1_3 := (hq3.cell (p := ⟨w0.heap.size, 1, none⟩) qs).trans q1
    have qs3 : w0.heap.size < w3.heap.size := Nat.lt_of_lt_of_le qs hq3.size
    clear hs hs1 hs2 hb1 hb2 hb3 hq3 q0 q1 q0_1 q1_1
    obtain ⟨sa, cap0, rfl, hlc, hcm, -⟩ := id hl3
    obtain ⟨a3, cap3, rfl, k1, k2, -⟩ := id hx3
    unfold maxLen at k2 hcm
    cases hv : tvalid xs
    · have hy0 : zs = [] := by rw [← hzs, tdrop, hv]; rfl
      have hr0 : r = false := by rw [← hr, tdropB, hv]; rfl
      clear hzs hr
      subst hy0 hr0
      go_wp2_with fail
      refine (specTV_b hl3 hv).mono ?_
      rintro e w4 ⟨rfl, hb4⟩
      go_wp2_with fail
      refine (alive_any _).mono ?_
      rintro e w5 ⟨rfl, hb5⟩
      have hw5 : Below w.heap.size w w5 := (hw3.trans (hb4.mono hw3.size)).trans (hb5.mono (Nat.le_trans hw3.size hb4.size))
      go_wp2
      go_ret
      exact ⟨rfl, hw5⟩
    · have HZV := Lib.hid (show tvalid zs = true by rw [← hzs]; exact tdrop_valid hv _)
      have HZA := Lib.hid (show tdropB zs ⟨p1, p2⟩ = false by rw [← hzs]; exact tdrop_again hv _)
      have HC := tdrop_cases hv ⟨p1, p2⟩
      rw [hzs, hr] at HC
      clear hzs hr
      go_wp2_with fail
      refine (specTV_b hl3 hv).mono ?_
      rintro e w4 ⟨rfl, hb4⟩
      have hw4 : Below w.heap.size w w4 := hw3.trans (hb4.mono hw3.size)
      have q0_4 := (hb4.cell (p := ⟨w0.heap.size, 0, none⟩) qs3).trans q0_3
      have q1_4 := (hb4.cell (p := ⟨w0.heap.size, 1, none⟩) qs3).trans q1_3
      have hx4 := hx3.below hb4
      have hl4 := hl3.below hb4
      clear hb4 hl3 hx3 hw3 hv
      go_wp2_with fail
      refine (implTD_any zs _ p1 p2 _ hx4).mono ?_
      rw [HZA.out]
      rintro e w5 ⟨v5, rfl, -, hb5⟩
      have hw5 : Below w.heap.size w w5 := hw4.trans (hb5.mono hw4.size)
      have hx5 := hx4.below hb5
      have hl5 := hl4.below hb5
      clear hb5 hl4 hx4 hw4
      go_wp2_with fail
      refine (implTV_b hx5 HZV.out).mono ?_
      rintro e w6 ⟨rfl, hb6⟩
      have hw6 : Below w.heap.size w w6 := hw5.trans (hb6.mono hw5.size)
      have hx6 := hx5.below hb6
      have hl6 := hl5.below hb6
      clear hb6 hl5 hx5 hw5
      rcases HC with ⟨rfl, hc⟩ | ⟨rfl, rfl⟩
      · have hc2 : (zs.length : Int) = (xs.length : Int) - 1 := by omega
        have hc3 : ((zs.length : Int) == (xs.length : Int) - 1) = true := by simpa using hc2
        go_wp2
        go_ret
        exact ⟨rfl, hw6⟩
      · go_wp2_with fail
        refine (sameTable_eq zs _ _ _ hx6 hl6).mono ?_
        rintro e w7 ⟨rfl, hb7⟩
        have hw7 : Below w.heap.size w w7 := hw6.trans (hb7.mono hw6.size)
        clear hb7 hw6
        go_wp2
        go_ret
        exact ⟨rfl, hw7⟩
end Go.Proofs.Ytfnfpekjjmejnaa
