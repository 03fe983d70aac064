/- The program's RulesetValid and what it calls. -/
import Derived.Test.YtfcbbahlhjdefaaDoorRsH
import Derived.Test.YtfcbbahlhjdefaaDoorNwX
namespace Go.Proofs.YtfcbbahlhjdefaaDoor
open Go.RowKit
theorem inB_and (n lo hi : Int) : inB n lo hi = (decide (lo ≤ n) && decide (n ≤ hi)) := by unfold inB; exact Bool.decide_and _ _
set_option maxHeartbeats 2000000 in
set_option maxRecDepth 100000 in
theorem implTV_b {f lo hi : Int} {n r : Bool} (h : tvalid1 f lo hi = r) (w : World) (ht : Tab w) :
    Calls Tryd.prog 65 #[.agg #[.int .i64 f, .int .i64 lo, .int .i64 hi, .bool n]] w fun e w' => e = .returned (.bool r) ∧ Below w.heap.size w w' := by
  obtain ⟨W, hW⟩ : ∃ W, w.alloc (.cells #[.int .i64 f, .int .i64 lo, .int .i64 hi, .bool n] 108) = W := ⟨_, rfl⟩
  have hal : Below w.heap.size w W := by rw [← hW]; exact (Below.refl _ _).alloc (Nat.le_refl _) _
  have hl : w.heap.size < W.heap.size := by rw [← hW]; simp
  have q0 : W.cell? ⟨w.heap.size, 0, none⟩ = some (.int .i64 f) := by rw [← hW]; simp
  have q1 : W.cell? ⟨w.heap.size, 1, none⟩ = some (.int .i64 lo) := by rw [← hW]; simp
  have q2 : W.cell? ⟨w.heap.size, 2, none⟩ = some (.int .i64 hi) := by rw [← hW]; simp
  have HT := Lib.hid (ht.below hal)
  have HR := Lib.hid h
  have hu : tvalid1 f lo hi = (inB f 0 3 && inB lo 0 hi && decide (hi ≤ top f.toNat)) := rfl
  have hi1 : inB f 0 3 = (decide (0 ≤ f) && decide (f ≤ 3)) := inB_and _ _ _
  have hi2 : inB lo 0 hi = (decide (0 ≤ lo) && decide (lo ≤ hi)) := inB_and _ _ _
  rw [hi1, hi2] at hu
  have HU := Lib.hid hu
  clear hu hi1 hi2 h ht
  by_cases h0 : 0 ≤ f
  · by_cases h1 : f < 4
    · by_cases h2 : 0 ≤ lo
      · by_cases h3 : lo ≤ hi
        · obtain ⟨k, rfl⟩ := Int.eq_ofNat_of_zero_le h0
          have hk4 : k < 4 := by omega
          have HF := Lib.hid (show r = decide (hi ≤ top k) by
            rw [← HR.out, HU.out, decide_eq_true h0, decide_eq_true (show (k : Int) ≤ 3 by omega), decide_eq_true h2, decide_eq_true h3]; simp)
          obtain ⟨rr, hrr⟩ : ∃ rr, decide (hi ≤ top k) = rr := ⟨_, rfl⟩
          obtain rfl : r = rr := HF.out.trans hrr
          clear HF
          go_enter Tryd.func65, Tryd.ntmps65
          go_wp2_with fail
          (refine wp_region_belG (W := W) [BIs (.pointer (some ⟨w.heap.size, 0, none⟩)), BIs (.int .i64 (k : Int)), BIs (.bool true), BIs (.bool true), BIs (.pointer (some ⟨w.heap.size, 0, none⟩)), BIs (.int .i64 (k : Int)), BIs (.bool true), BIs (.bool true), BIs (.bool true), BIs (.pointer (some ⟨w.heap.size, 1, none⟩)), BIs (.int .i64 lo), BIs (.bool true), BIs (.bool true), BIs (.bool true), BIs (.pointer (some ⟨w.heap.size, 1, none⟩)), BIs (.int .i64 lo), BIs (.pointer (some ⟨w.heap.size, 2, none⟩)), BIs (.int .i64 hi), BIs (.bool true), BIs (.bool true), BIs (.bool true), BIs (.pointer (some ⟨w.heap.size, 2, none⟩)), BIs (.int .i64 hi), BIs (.pointer (some ⟨w.heap.size, 0, none⟩)), BIs (.int .i64 (k : Int)), (BIs (.int .i64 (top k))), BIs (.bool r), BIs (.bool r), BIs (.bool r)] (by kernel_rfl) (fun u => by simp only [frU, Act.put, List.setIfInBounds_toArray, List.set_cons_succ, List.set_cons_zero, Nat.zero_add, Nat.reduceAdd]; exact rfl) (by kernel_rfl) ⟨bst_is _, bst_is _, bst_is _, bst_is _, bst_is _, bst_is _, bst_is _, bst_is _, bst_is _, bst_is _, bst_is _, bst_is _, bst_is _, bst_is _, bst_is _, bst_is _, bst_is _, bst_is _, bst_is _, bst_is _, bst_is _, bst_is _, bst_is _, bst_is _, bst_is _, (bst_is _), bst_is _, bst_is _, bst_is _, trivial⟩ ?_ ?_; exact ⟨stG (fun u w3 hC hd => ⟨rfl, fun Q K hK => by (go_step; exact hK _ _ rfl (Below.refl _ _) rfl)⟩), stG (fun u w3 hC hd => ⟨rfl, fun Q K hK => by (have hu := bis (w := w3) (hd 0 rfl); rw [hu] at hK ⊢; clear hu; have z0 := (hC.cell (p := ⟨w.heap.size, 0, none⟩) hl).trans q0; go_step; exact hK _ _ rfl (Below.refl _ _) rfl)⟩), stG (fun u w3 hC hd => ⟨rfl, fun Q K hK => by (have hu := bis (w := w3) (hd 1 rfl); rw [hu] at hK ⊢; clear hu; go_step; exact hK _ _ rfl (Below.refl _ _) rfl)⟩), stG (fun u w3 hC hd => ⟨rfl, fun Q K hK => by (have hu := bis (w := w3) (hd 2 rfl); rw [hu] at hK ⊢; clear hu; go_step; exact hK _ _ rfl (Below.refl _ _) rfl)⟩), stG (fun u w3 hC hd => ⟨by (have hu := bis (w := w3) (hd 3 rfl); rw [hu]; rfl), fun Q K hK => by (go_step; exact hK _ _ rfl (Below.refl _ _) rfl)⟩), stG (fun u w3 hC hd => ⟨by (have hu := bis (w := w3) (hd 3 rfl); rw [hu]; rfl), fun Q K hK => by (have hu := bis (w := w3) (hd 4 rfl); rw [hu] at hK ⊢; clear hu; have z0 := (hC.cell (p := ⟨w.heap.size, 0, none⟩) hl).trans q0; go_step; exact hK _ _ rfl (Below.refl _ _) rfl)⟩), stG (fun u w3 hC hd => ⟨by (have hu := bis (w := w3) (hd 3 rfl); rw [hu]; rfl), fun Q K hK => by (have hu := bis (w := w3) (hd 5 rfl); rw [hu] at hK ⊢; clear hu; go_step; exact hK _ _ rfl (Below.refl _ _) rfl)⟩), stG (fun u w3 hC hd => ⟨rfl, fun Q K hK => by (have hu := bis (w := w3) (hd 3 rfl); rw [hu] at hK ⊢; clear hu; have hu := bis (w := w3) (hd 6 rfl); rw [hu] at hK ⊢; clear hu; go_step; exact hK _ _ rfl (Below.refl _ _) rfl)⟩), stG (fun u w3 hC hd => ⟨rfl, fun Q K hK => by (have hu := bis (w := w3) (hd 7 rfl); rw [hu] at hK ⊢; clear hu; go_step; exact hK _ _ rfl (Below.refl _ _) rfl)⟩), stG (fun u w3 hC hd => ⟨by (have hu := bis (w := w3) (hd 8 rfl); rw [hu]; rfl), fun Q K hK => by (go_step; exact hK _ _ rfl (Below.refl _ _) rfl)⟩), stG (fun u w3 hC hd => ⟨by (have hu := bis (w := w3) (hd 8 rfl); rw [hu]; rfl), fun Q K hK => by (have hu := bis (w := w3) (hd 9 rfl); rw [hu] at hK ⊢; clear hu; have z0 := (hC.cell (p := ⟨w.heap.size, 1, none⟩) hl).trans q1; go_step; exact hK _ _ rfl (Below.refl _ _) rfl)⟩), stG (fun u w3 hC hd => ⟨by (have hu := bis (w := w3) (hd 8 rfl); rw [hu]; rfl), fun Q K hK => by (have hu := bis (w := w3) (hd 10 rfl); rw [hu] at hK ⊢; clear hu; go_step; exact hK _ _ rfl (Below.refl _ _) rfl)⟩), stG (fun u w3 hC hd => ⟨rfl, fun Q K hK => by (have hu := bis (w := w3) (hd 8 rfl); rw [hu] at hK ⊢; clear hu; have hu := bis (w := w3) (hd 11 rfl); rw [hu] at hK ⊢; clear hu; go_step; exact hK _ _ rfl (Below.refl _ _) rfl)⟩), stG (fun u w3 hC hd => ⟨rfl, fun Q K hK => by (have hu := bis (w := w3) (hd 12 rfl); rw [hu] at hK ⊢; clear hu; go_step; exact hK _ _ rfl (Below.refl _ _) rfl)⟩), stG (fun u w3 hC hd => ⟨by (have hu := bis (w := w3) (hd 13 rfl); rw [hu]; rfl), fun Q K hK => by (go_step; exact hK _ _ rfl (Below.refl _ _) rfl)⟩), stG (fun u w3 hC hd => ⟨by (have hu := bis (w := w3) (hd 13 rfl); rw [hu]; rfl), fun Q K hK => by (have hu := bis (w := w3) (hd 14 rfl); rw [hu] at hK ⊢; clear hu; have z0 := (hC.cell (p := ⟨w.heap.size, 1, none⟩) hl).trans q1; go_step; exact hK _ _ rfl (Below.refl _ _) rfl)⟩), stG (fun u w3 hC hd => ⟨by (have hu := bis (w := w3) (hd 13 rfl); rw [hu]; rfl), fun Q K hK => by (go_step; exact hK _ _ rfl (Below.refl _ _) rfl)⟩), stG (fun u w3 hC hd => ⟨by (have hu := bis (w := w3) (hd 13 rfl); rw [hu]; rfl), fun Q K hK => by (have hu := bis (w := w3) (hd 16 rfl); rw [hu] at hK ⊢; clear hu; have z0 := (hC.cell (p := ⟨w.heap.size, 2, none⟩) hl).trans q2; go_step; exact hK _ _ rfl (Below.refl _ _) rfl)⟩), stG (fun u w3 hC hd => ⟨by (have hu := bis (w := w3) (hd 13 rfl); rw [hu]; rfl), fun Q K hK => by (have hu := bis (w := w3) (hd 15 rfl); rw [hu] at hK ⊢; clear hu; have hu := bis (w := w3) (hd 17 rfl); rw [hu] at hK ⊢; clear hu; go_step; exact hK _ _ rfl (Below.refl _ _) rfl)⟩), stG (fun u w3 hC hd => ⟨rfl, fun Q K hK => by (have hu := bis (w := w3) (hd 13 rfl); rw [hu] at hK ⊢; clear hu; have hu := bis (w := w3) (hd 18 rfl); rw [hu] at hK ⊢; clear hu; go_step; exact hK _ _ rfl (Below.refl _ _) rfl)⟩), stG (fun u w3 hC hd => ⟨rfl, fun Q K hK => by (have hu := bis (w := w3) (hd 19 rfl); rw [hu] at hK ⊢; clear hu; go_step; exact hK _ _ rfl (Below.refl _ _) rfl)⟩), stG (fun u w3 hC hd => ⟨by (have hu := bis (w := w3) (hd 20 rfl); rw [hu]; rfl), fun Q K hK => by (go_step; exact hK _ _ rfl (Below.refl _ _) rfl)⟩), stG (fun u w3 hC hd => ⟨by (have hu := bis (w := w3) (hd 20 rfl); rw [hu]; rfl), fun Q K hK => by (have hu := bis (w := w3) (hd 21 rfl); rw [hu] at hK ⊢; clear hu; have z0 := (hC.cell (p := ⟨w.heap.size, 2, none⟩) hl).trans q2; go_step; exact hK _ _ rfl (Below.refl _ _) rfl)⟩), stG (fun u w3 hC hd => ⟨by (have hu := bis (w := w3) (hd 20 rfl); rw [hu]; rfl), fun Q K hK => by (go_step; exact hK _ _ rfl (Below.refl _ _) rfl)⟩), stG (fun u w3 hC hd => ⟨by (have hu := bis (w := w3) (hd 20 rfl); rw [hu]; rfl), fun Q K hK => by (have hu := bis (w := w3) (hd 23 rfl); rw [hu] at hK ⊢; clear hu; have z0 := (hC.cell (p := ⟨w.heap.size, 0, none⟩) hl).trans q0; go_step; exact hK _ _ rfl (Below.refl _ _) rfl)⟩), stG (fun u w3 hC hd => ⟨by (have hu := bis (w := w3) (hd 20 rfl); rw [hu]; rfl), fun Q K hK => by (have hu := bis (w := w3) (hd 24 rfl); rw [hu] at hK ⊢; clear hu; go_step; refine (FieldTop_any k hk4 _ (HT.out.below hC)).mono ?_; rintro e w4 ⟨rfl, rfl⟩; exact hK _ _ rfl (Below.refl _ _) rfl)⟩), stG (fun u w3 hC hd => ⟨by (have hu := bis (w := w3) (hd 20 rfl); rw [hu]; rfl), fun Q K hK => by (have hu := bis (w := w3) (hd 22 rfl); rw [hu] at hK ⊢; clear hu; have hu := bis (w := w3) (hd 25 rfl); rw [hu] at hK ⊢; clear hu; go_step; exact hK _ _ rfl (Below.refl _ _) rfl)⟩), stG (fun u w3 hC hd => ⟨rfl, fun Q K hK => by (have hu := bis (w := w3) (hd 20 rfl); rw [hu] at hK ⊢; clear hu; have hu := bis (w := w3) (hd 26 rfl); rw [hu] at hK ⊢; clear hu; go_step; exact hK _ _ rfl (Below.refl _ _) rfl)⟩), stG (fun u w3 hC hd => ⟨rfl, fun Q K hK => by (have hu := bis (w := w3) (hd 27 rfl); rw [hu] at hK ⊢; clear hu; go_step; exact hK _ _ rfl (Below.refl _ _) rfl)⟩), trivial⟩); intro u w9 hb_w9 hF; rw [bis (w := w9) (hF 0 (by decide))]; rw [bis (w := w9) (hF 1 (by decide))]; rw [bis (w := w9) (hF 2 (by decide))]; rw [bis (w := w9) (hF 3 (by decide))]; rw [bis (w := w9) (hF 4 (by decide))]; rw [bis (w := w9) (hF 5 (by decide))]; rw [bis (w := w9) (hF 6 (by decide))]; rw [bis (w := w9) (hF 7 (by decide))]; rw [bis (w := w9) (hF 8 (by decide))]; rw [bis (w := w9) (hF 9 (by decide))]; rw [bis (w := w9) (hF 10 (by decide))]; rw [bis (w := w9) (hF 11 (by decide))]; rw [bis (w := w9) (hF 12 (by decide))]; rw [bis (w := w9) (hF 13 (by decide))]; rw [bis (w := w9) (hF 14 (by decide))]; rw [bis (w := w9) (hF 15 (by decide))]; rw [bis (w := w9) (hF 16 (by decide))]; rw [bis (w := w9) (hF 17 (by decide))]; rw [bis (w := w9) (hF 18 (by decide))]; rw [bis (w := w9) (hF 19 (by decide))]; rw [bis (w := w9) (hF 20 (by decide))]; rw [bis (w := w9) (hF 21 (by decide))]; rw [bis (w := w9) (hF 22 (by decide))]; rw [bis (w := w9) (hF 23 (by decide))]; rw [bis (w := w9) (hF 24 (by decide))]; generalize u 25 = vx25 at *; rw [bis (w := w9) (hF 26 (by decide))]; rw [bis (w := w9) (hF 27 (by decide))]; rw [bis (w := w9) (hF 28 (by decide))]; clear hF
          go_wp2
          go_ret
          exact ⟨rfl, hal.trans (hb_w9.mono hal.size)⟩
        · obtain rfl : r = false := by rw [← HR.out, HU.out, decide_eq_false h3]; simp
          go_enter Tryd.func65, Tryd.ntmps65
          go_wp2_with fail
          (refine wp_region_belH (W := W) [BIs (.pointer (some ⟨w.heap.size, 0, none⟩)), BIs (.int .i64 f), BIs (.bool true), BIs (.bool true), BIs (.pointer (some ⟨w.heap.size, 0, none⟩)), BIs (.int .i64 f), BIs (.bool true), BIs (.bool true), BIs (.bool true), BIs (.pointer (some ⟨w.heap.size, 1, none⟩)), BIs (.int .i64 lo), BIs (.bool true), BIs (.bool true), BIs (.bool true), BIs (.pointer (some ⟨w.heap.size, 1, none⟩)), BIs (.int .i64 lo), BIs (.pointer (some ⟨w.heap.size, 2, none⟩)), BIs (.int .i64 hi), (BIs (.bool false)), BIs (.bool false), BIs (.bool false), BIs undef, BIs undef, BIs undef, BIs undef, BIs undef, BIs undef, BIs (.bool false), BIs (.bool false)] (by kernel_rfl) (fun u => by simp only [frU, Act.put, List.setIfInBounds_toArray, List.set_cons_succ, List.set_cons_zero, Nat.zero_add, Nat.reduceAdd]; exact rfl) (by kernel_rfl) ⟨bst_is _, bst_is _, bst_is _, bst_is _, bst_is _, bst_is _, bst_is _, bst_is _, bst_is _, bst_is _, bst_is _, bst_is _, bst_is _, bst_is _, bst_is _, bst_is _, bst_is _, bst_is _, (bst_is _), bst_is _, bst_is _, bst_is _, bst_is _, bst_is _, bst_is _, bst_is _, bst_is _, bst_is _, bst_is _, trivial⟩ ?_ ?_; exact ⟨stH (fun u w3 hC hd => .inl ⟨rfl, fun Q K hK => by (go_step; exact hK _ _ rfl (Below.refl _ _) rfl)⟩), stH (fun u w3 hC hd => .inl ⟨rfl, fun Q K hK => by (have hu := bis (w := w3) (hd 0 rfl); rw [hu] at hK ⊢; clear hu; have z0 := (hC.cell (p := ⟨w.heap.size, 0, none⟩) hl).trans q0; go_step; exact hK _ _ rfl (Below.refl _ _) rfl)⟩), stH (fun u w3 hC hd => .inl ⟨rfl, fun Q K hK => by (have hu := bis (w := w3) (hd 1 rfl); rw [hu] at hK ⊢; clear hu; go_step; exact hK _ _ rfl (Below.refl _ _) rfl)⟩), stH (fun u w3 hC hd => .inl ⟨rfl, fun Q K hK => by (have hu := bis (w := w3) (hd 2 rfl); rw [hu] at hK ⊢; clear hu; go_step; exact hK _ _ rfl (Below.refl _ _) rfl)⟩), stH (fun u w3 hC hd => .inl ⟨by (have hu := bis (w := w3) (hd 3 rfl); rw [hu]; rfl), fun Q K hK => by (go_step; exact hK _ _ rfl (Below.refl _ _) rfl)⟩), stH (fun u w3 hC hd => .inl ⟨by (have hu := bis (w := w3) (hd 3 rfl); rw [hu]; rfl), fun Q K hK => by (have hu := bis (w := w3) (hd 4 rfl); rw [hu] at hK ⊢; clear hu; have z0 := (hC.cell (p := ⟨w.heap.size, 0, none⟩) hl).trans q0; go_step; exact hK _ _ rfl (Below.refl _ _) rfl)⟩), stH (fun u w3 hC hd => .inl ⟨by (have hu := bis (w := w3) (hd 3 rfl); rw [hu]; rfl), fun Q K hK => by (have hu := bis (w := w3) (hd 5 rfl); rw [hu] at hK ⊢; clear hu; go_step; exact hK _ _ rfl (Below.refl _ _) rfl)⟩), stH (fun u w3 hC hd => .inl ⟨rfl, fun Q K hK => by (have hu := bis (w := w3) (hd 3 rfl); rw [hu] at hK ⊢; clear hu; have hu := bis (w := w3) (hd 6 rfl); rw [hu] at hK ⊢; clear hu; go_step; exact hK _ _ rfl (Below.refl _ _) rfl)⟩), stH (fun u w3 hC hd => .inl ⟨rfl, fun Q K hK => by (have hu := bis (w := w3) (hd 7 rfl); rw [hu] at hK ⊢; clear hu; go_step; exact hK _ _ rfl (Below.refl _ _) rfl)⟩), stH (fun u w3 hC hd => .inl ⟨by (have hu := bis (w := w3) (hd 8 rfl); rw [hu]; rfl), fun Q K hK => by (go_step; exact hK _ _ rfl (Below.refl _ _) rfl)⟩), stH (fun u w3 hC hd => .inl ⟨by (have hu := bis (w := w3) (hd 8 rfl); rw [hu]; rfl), fun Q K hK => by (have hu := bis (w := w3) (hd 9 rfl); rw [hu] at hK ⊢; clear hu; have z0 := (hC.cell (p := ⟨w.heap.size, 1, none⟩) hl).trans q1; go_step; exact hK _ _ rfl (Below.refl _ _) rfl)⟩), stH (fun u w3 hC hd => .inl ⟨by (have hu := bis (w := w3) (hd 8 rfl); rw [hu]; rfl), fun Q K hK => by (have hu := bis (w := w3) (hd 10 rfl); rw [hu] at hK ⊢; clear hu; go_step; exact hK _ _ rfl (Below.refl _ _) rfl)⟩), stH (fun u w3 hC hd => .inl ⟨rfl, fun Q K hK => by (have hu := bis (w := w3) (hd 8 rfl); rw [hu] at hK ⊢; clear hu; have hu := bis (w := w3) (hd 11 rfl); rw [hu] at hK ⊢; clear hu; go_step; exact hK _ _ rfl (Below.refl _ _) rfl)⟩), stH (fun u w3 hC hd => .inl ⟨rfl, fun Q K hK => by (have hu := bis (w := w3) (hd 12 rfl); rw [hu] at hK ⊢; clear hu; go_step; exact hK _ _ rfl (Below.refl _ _) rfl)⟩), stH (fun u w3 hC hd => .inl ⟨by (have hu := bis (w := w3) (hd 13 rfl); rw [hu]; rfl), fun Q K hK => by (go_step; exact hK _ _ rfl (Below.refl _ _) rfl)⟩), stH (fun u w3 hC hd => .inl ⟨by (have hu := bis (w := w3) (hd 13 rfl); rw [hu]; rfl), fun Q K hK => by (have hu := bis (w := w3) (hd 14 rfl); rw [hu] at hK ⊢; clear hu; have z0 := (hC.cell (p := ⟨w.heap.size, 1, none⟩) hl).trans q1; go_step; exact hK _ _ rfl (Below.refl _ _) rfl)⟩), stH (fun u w3 hC hd => .inl ⟨by (have hu := bis (w := w3) (hd 13 rfl); rw [hu]; rfl), fun Q K hK => by (go_step; exact hK _ _ rfl (Below.refl _ _) rfl)⟩), stH (fun u w3 hC hd => .inl ⟨by (have hu := bis (w := w3) (hd 13 rfl); rw [hu]; rfl), fun Q K hK => by (have hu := bis (w := w3) (hd 16 rfl); rw [hu] at hK ⊢; clear hu; have z0 := (hC.cell (p := ⟨w.heap.size, 2, none⟩) hl).trans q2; go_step; exact hK _ _ rfl (Below.refl _ _) rfl)⟩), stH (fun u w3 hC hd => .inl ⟨by (have hu := bis (w := w3) (hd 13 rfl); rw [hu]; rfl), fun Q K hK => by (have hu := bis (w := w3) (hd 15 rfl); rw [hu] at hK ⊢; clear hu; have hu := bis (w := w3) (hd 17 rfl); rw [hu] at hK ⊢; clear hu; go_step; exact hK _ _ rfl (Below.refl _ _) (by first | exact congrArg Value.bool (decide_eq_false (by omega)) | rfl))⟩), stH (fun u w3 hC hd => .inl ⟨rfl, fun Q K hK => by (have hu := bis (w := w3) (hd 13 rfl); rw [hu] at hK ⊢; clear hu; have hu := bis (w := w3) (hd 18 rfl); rw [hu] at hK ⊢; clear hu; go_step; exact hK _ _ rfl (Below.refl _ _) rfl)⟩), stH (fun u w3 hC hd => .inl ⟨rfl, fun Q K hK => by (have hu := bis (w := w3) (hd 19 rfl); rw [hu] at hK ⊢; clear hu; go_step; exact hK _ _ rfl (Below.refl _ _) rfl)⟩), stH (fun u w3 hC hd => .inr ⟨by (have hu := bis (w := w3) (hd 20 rfl); rw [hu]; rfl), rfl⟩), stH (fun u w3 hC hd => .inr ⟨by (have hu := bis (w := w3) (hd 20 rfl); rw [hu]; rfl), rfl⟩), stH (fun u w3 hC hd => .inr ⟨by (have hu := bis (w := w3) (hd 20 rfl); rw [hu]; rfl), rfl⟩), stH (fun u w3 hC hd => .inr ⟨by (have hu := bis (w := w3) (hd 20 rfl); rw [hu]; rfl), rfl⟩), stH (fun u w3 hC hd => .inr ⟨by (have hu := bis (w := w3) (hd 20 rfl); rw [hu]; rfl), rfl⟩), stH (fun u w3 hC hd => .inr ⟨by (have hu := bis (w := w3) (hd 20 rfl); rw [hu]; rfl), rfl⟩), stH (fun u w3 hC hd => .inl ⟨rfl, fun Q K hK => by (have hu := bis (w := w3) (hd 20 rfl); rw [hu] at hK ⊢; clear hu; go_step; exact hK _ _ rfl (Below.refl _ _) rfl)⟩), stH (fun u w3 hC hd => .inl ⟨rfl, fun Q K hK => by (have hu := bis (w := w3) (hd 27 rfl); rw [hu] at hK ⊢; clear hu; go_step; exact hK _ _ rfl (Below.refl _ _) rfl)⟩), trivial⟩); intro u w9 hb_w9 hF; rw [bis (w := w9) (hF 0 (by decide))]; rw [bis (w := w9) (hF 1 (by decide))]; rw [bis (w := w9) (hF 2 (by decide))]; rw [bis (w := w9) (hF 3 (by decide))]; rw [bis (w := w9) (hF 4 (by decide))]; rw [bis (w := w9) (hF 5 (by decide))]; rw [bis (w := w9) (hF 6 (by decide))]; rw [bis (w := w9) (hF 7 (by decide))]; rw [bis (w := w9) (hF 8 (by decide))]; rw [bis (w := w9) (hF 9 (by decide))]; rw [bis (w := w9) (hF 10 (by decide))]; rw [bis (w := w9) (hF 11 (by decide))]; rw [bis (w := w9) (hF 12 (by decide))]; rw [bis (w := w9) (hF 13 (by decide))]; rw [bis (w := w9) (hF 14 (by decide))]; rw [bis (w := w9) (hF 15 (by decide))]; rw [bis (w := w9) (hF 16 (by decide))]; rw [bis (w := w9) (hF 17 (by decide))]; generalize u 18 = vx18 at *; rw [bis (w := w9) (hF 19 (by decide))]; rw [bis (w := w9) (hF 20 (by decide))]; rw [bis (w := w9) (hF 21 (by decide))]; rw [bis (w := w9) (hF 22 (by decide))]; rw [bis (w := w9) (hF 23 (by decide))]; rw [bis (w := w9) (hF 24 (by decide))]; rw [bis (w := w9) (hF 25 (by decide))]; rw [bis (w := w9) (hF 26 (by decide))]; rw [bis (w := w9) (hF 27 (by decide))]; rw [bis (w := w9) (hF 28 (by decide))]; clear hF
          go_wp2
          go_ret
          exact ⟨rfl, hal.trans (hb_w9.mono hal.size)⟩
      · obtain rfl : r = false := by rw [← HR.out, HU.out, decide_eq_false h2]; simp
        go_enter Tryd.func65, Tryd.ntmps65
        go_wp2_with fail
        (refine wp_region_belH (W := W) [BIs (.pointer (some ⟨w.heap.size, 0, none⟩)), BIs (.int .i64 f), BIs (.bool true), BIs (.bool true), BIs (.pointer (some ⟨w.heap.size, 0, none⟩)), BIs (.int .i64 f), BIs (.bool true), BIs (.bool true), BIs (.bool true), BIs (.pointer (some ⟨w.heap.size, 1, none⟩)), BIs (.int .i64 lo), (BIs (.bool false)), BIs (.bool false), BIs (.bool false), BIs undef, BIs undef, BIs undef, BIs undef, BIs undef, BIs (.bool false), BIs (.bool false), BIs undef, BIs undef, BIs undef, BIs undef, BIs undef, BIs undef, BIs (.bool false), BIs (.bool false)] (by kernel_rfl) (fun u => by simp only [frU, Act.put, List.setIfInBounds_toArray, List.set_cons_succ, List.set_cons_zero, Nat.zero_add, Nat.reduceAdd]; exact rfl) (by kernel_rfl) ⟨bst_is _, bst_is _, bst_is _, bst_is _, bst_is _, bst_is _, bst_is _, bst_is _, bst_is _, bst_is _, bst_is _, (bst_is _), bst_is _, bst_is _, bst_is _, bst_is _, bst_is _, bst_is _, bst_is _, bst_is _, bst_is _, bst_is _, bst_is _, bst_is _, bst_is _, bst_is _, bst_is _, bst_is _, bst_is _, trivial⟩ ?_ ?_; exact ⟨stH (fun u w3 hC hd => .inl ⟨rfl, fun Q K hK => by (go_step; exact hK _ _ rfl (Below.refl _ _) rfl)⟩), stH (fun u w3 hC hd => .inl ⟨rfl, fun Q K hK => by (have hu := bis (w := w3) (hd 0 rfl); rw [hu] at hK ⊢; clear hu; have z0 := (hC.cell (p := ⟨w.heap.size, 0, none⟩) hl).trans q0; go_step; exact hK _ _ rfl (Below.refl _ _) rfl)⟩), stH (fun u w3 hC hd => .inl ⟨rfl, fun Q K hK => by (have hu := bis (w := w3) (hd 1 rfl); rw [hu] at hK ⊢; clear hu; go_step; exact hK _ _ rfl (Below.refl _ _) rfl)⟩), stH (fun u w3 hC hd => .inl ⟨rfl, fun Q K hK => by (have hu := bis (w := w3) (hd 2 rfl); rw [hu] at hK ⊢; clear hu; go_step; exact hK _ _ rfl (Below.refl _ _) rfl)⟩), stH (fun u w3 hC hd => .inl ⟨by (have hu := bis (w := w3) (hd 3 rfl); rw [hu]; rfl), fun Q K hK => by (go_step; exact hK _ _ rfl (Below.refl _ _) rfl)⟩), stH (fun u w3 hC hd => .inl ⟨by (have hu := bis (w := w3) (hd 3 rfl); rw [hu]; rfl), fun Q K hK => by (have hu := bis (w := w3) (hd 4 rfl); rw [hu] at hK ⊢; clear hu; have z0 := (hC.cell (p := ⟨w.heap.size, 0, none⟩) hl).trans q0; go_step; exact hK _ _ rfl (Below.refl _ _) rfl)⟩), stH (fun u w3 hC hd => .inl ⟨by (have hu := bis (w := w3) (hd 3 rfl); rw [hu]; rfl), fun Q K hK => by (have hu := bis (w := w3) (hd 5 rfl); rw [hu] at hK ⊢; clear hu; go_step; exact hK _ _ rfl (Below.refl _ _) rfl)⟩), stH (fun u w3 hC hd => .inl ⟨rfl, fun Q K hK => by (have hu := bis (w := w3) (hd 3 rfl); rw [hu] at hK ⊢; clear hu; have hu := bis (w := w3) (hd 6 rfl); rw [hu] at hK ⊢; clear hu; go_step; exact hK _ _ rfl (Below.refl _ _) rfl)⟩), stH (fun u w3 hC hd => .inl ⟨rfl, fun Q K hK => by (have hu := bis (w := w3) (hd 7 rfl); rw [hu] at hK ⊢; clear hu; go_step; exact hK _ _ rfl (Below.refl _ _) rfl)⟩), stH (fun u w3 hC hd => .inl ⟨by (have hu := bis (w := w3) (hd 8 rfl); rw [hu]; rfl), fun Q K hK => by (go_step; exact hK _ _ rfl (Below.refl _ _) rfl)⟩), stH (fun u w3 hC hd => .inl ⟨by (have hu := bis (w := w3) (hd 8 rfl); rw [hu]; rfl), fun Q K hK => by (have hu := bis (w := w3) (hd 9 rfl); rw [hu] at hK ⊢; clear hu; have z0 := (hC.cell (p := ⟨w.heap.size, 1, none⟩) hl).trans q1; go_step; exact hK _ _ rfl (Below.refl _ _) rfl)⟩), stH (fun u w3 hC hd => .inl ⟨by (have hu := bis (w := w3) (hd 8 rfl); rw [hu]; rfl), fun Q K hK => by (have hu := bis (w := w3) (hd 10 rfl); rw [hu] at hK ⊢; clear hu; go_step; exact hK _ _ rfl (Below.refl _ _) (by first | exact congrArg Value.bool (decide_eq_false (by omega)) | rfl))⟩), stH (fun u w3 hC hd => .inl ⟨rfl, fun Q K hK => by (have hu := bis (w := w3) (hd 8 rfl); rw [hu] at hK ⊢; clear hu; have hu := bis (w := w3) (hd 11 rfl); rw [hu] at hK ⊢; clear hu; go_step; exact hK _ _ rfl (Below.refl _ _) rfl)⟩), stH (fun u w3 hC hd => .inl ⟨rfl, fun Q K hK => by (have hu := bis (w := w3) (hd 12 rfl); rw [hu] at hK ⊢; clear hu; go_step; exact hK _ _ rfl (Below.refl _ _) rfl)⟩), stH (fun u w3 hC hd => .inr ⟨by (have hu := bis (w := w3) (hd 13 rfl); rw [hu]; rfl), rfl⟩), stH (fun u w3 hC hd => .inr ⟨by (have hu := bis (w := w3) (hd 13 rfl); rw [hu]; rfl), rfl⟩), stH (fun u w3 hC hd => .inr ⟨by (have hu := bis (w := w3) (hd 13 rfl); rw [hu]; rfl), rfl⟩), stH (fun u w3 hC hd => .inr ⟨by (have hu := bis (w := w3) (hd 13 rfl); rw [hu]; rfl), rfl⟩), stH (fun u w3 hC hd => .inr ⟨by (have hu := bis (w := w3) (hd 13 rfl); rw [hu]; rfl), rfl⟩), stH (fun u w3 hC hd => .inl ⟨rfl, fun Q K hK => by (have hu := bis (w := w3) (hd 13 rfl); rw [hu] at hK ⊢; clear hu; go_step; exact hK _ _ rfl (Below.refl _ _) rfl)⟩), stH (fun u w3 hC hd => .inl ⟨rfl, fun Q K hK => by (have hu := bis (w := w3) (hd 19 rfl); rw [hu] at hK ⊢; clear hu; go_step; exact hK _ _ rfl (Below.refl _ _) rfl)⟩), stH (fun u w3 hC hd => .inr ⟨by (have hu := bis (w := w3) (hd 20 rfl); rw [hu]; rfl), rfl⟩), stH (fun u w3 hC hd => .inr ⟨by (have hu := bis (w := w3) (hd 20 rfl); rw [hu]; rfl), rfl⟩), stH (fun u w3 hC hd => .inr ⟨by (have hu := bis (w := w3) (hd 20 rfl); rw [hu]; rfl), rfl⟩), stH (fun u w3 hC hd => .inr ⟨by (have hu := bis (w := w3) (hd 20 rfl); rw [hu]; rfl), rfl⟩), stH (fun u w3 hC hd => .inr ⟨by (have hu := bis (w := w3) (hd 20 rfl); rw [hu]; rfl), rfl⟩), stH (fun u w3 hC hd => .inr ⟨by (have hu := bis (w := w3) (hd 20 rfl); rw [hu]; rfl), rfl⟩), stH (fun u w3 hC hd => .inl ⟨rfl, fun Q K hK => by (have hu := bis (w := w3) (hd 20 rfl); rw [hu] at hK ⊢; clear hu; go_step; exact hK _ _ rfl (Below.refl _ _) rfl)⟩), stH (fun u w3 hC hd => .inl ⟨rfl, fun Q K hK => by (have hu := bis (w := w3) (hd 27 rfl); rw [hu] at hK ⊢; clear hu; go_step; exact hK _ _ rfl (Below.refl _ _) rfl)⟩), trivial⟩); intro u w9 hb_w9 hF; rw [bis (w := w9) (hF 0 (by decide))]; rw [bis (w := w9) (hF 1 (by decide))]; rw [bis (w := w9) (hF 2 (by decide))]; rw [bis (w := w9) (hF 3 (by decide))]; rw [bis (w := w9) (hF 4 (by decide))]; rw [bis (w := w9) (hF 5 (by decide))]; rw [bis (w := w9) (hF 6 (by decide))]; rw [bis (w := w9) (hF 7 (by decide))]; rw [bis (w := w9) (hF 8 (by decide))]; rw [bis (w := w9) (hF 9 (by decide))]; rw [bis (w := w9) (hF 10 (by decide))]; generalize u 11 = vx11 at *; rw [bis (w := w9) (hF 12 (by decide))]; rw [bis (w := w9) (hF 13 (by decide))]; rw [bis (w := w9) (hF 14 (by decide))]; rw [bis (w := w9) (hF 15 (by decide))]; rw [bis (w := w9) (hF 16 (by decide))]; rw [bis (w := w9) (hF 17 (by decide))]; rw [bis (w := w9) (hF 18 (by decide))]; rw [bis (w := w9) (hF 19 (by decide))]; rw [bis (w := w9) (hF 20 (by decide))]; rw [bis (w := w9) (hF 21 (by decide))]; rw [bis (w := w9) (hF 22 (by decide))]; rw [bis (w := w9) (hF 23 (by decide))]; rw [bis (w := w9) (hF 24 (by decide))]; rw [bis (w := w9) (hF 25 (by decide))]; rw [bis (w := w9) (hF 26 (by decide))]; rw [bis (w := w9) (hF 27 (by decide))]; rw [bis (w := w9) (hF 28 (by decide))]; clear hF
        go_wp2
        go_ret
        exact ⟨rfl, hal.trans (hb_w9.mono hal.size)⟩
    · obtain rfl : r = false := by rw [← HR.out, HU.out, decide_eq_false (show ¬ f ≤ 3 by omega)]; simp
      go_enter Tryd.func65, Tryd.ntmps65
      go_wp2_with fail
      (refine wp_region_belH (W := W) [BIs (.pointer (some ⟨w.heap.size, 0, none⟩)), BIs (.int .i64 f), BIs (.bool true), BIs (.bool true), BIs (.pointer (some ⟨w.heap.size, 0, none⟩)), BIs (.int .i64 f), (BIs (.bool false)), BIs (.bool false), BIs (.bool false), BIs undef, BIs undef, BIs undef, BIs (.bool false), BIs (.bool false), BIs undef, BIs undef, BIs undef, BIs undef, BIs undef, BIs (.bool false), BIs (.bool false), BIs undef, BIs undef, BIs undef, BIs undef, BIs undef, BIs undef, BIs (.bool false), BIs (.bool false)] (by kernel_rfl) (fun u => by simp only [frU, Act.put, List.setIfInBounds_toArray, List.set_cons_succ, List.set_cons_zero, Nat.zero_add, Nat.reduceAdd]; exact rfl) (by kernel_rfl) ⟨bst_is _, bst_is _, bst_is _, bst_is _, bst_is _, bst_is _, (bst_is _), bst_is _, bst_is _, bst_is _, bst_is _, bst_is _, bst_is _, bst_is _, bst_is _, bst_is _, bst_is _, bst_is _, bst_is _, bst_is _, bst_is _, bst_is _, bst_is _, bst_is _, bst_is _, bst_is _, bst_is _, bst_is _, bst_is _, trivial⟩ ?_ ?_; exact ⟨stH (fun u w3 hC hd => .inl ⟨rfl, fun Q K hK => by (go_step; exact hK _ _ rfl (Below.refl _ _) rfl)⟩), stH (fun u w3 hC hd => .inl ⟨rfl, fun Q K hK => by (have hu := bis (w := w3) (hd 0 rfl); rw [hu] at hK ⊢; clear hu; have z0 := (hC.cell (p := ⟨w.heap.size, 0, none⟩) hl).trans q0; go_step; exact hK _ _ rfl (Below.refl _ _) rfl)⟩), stH (fun u w3 hC hd => .inl ⟨rfl, fun Q K hK => by (have hu := bis (w := w3) (hd 1 rfl); rw [hu] at hK ⊢; clear hu; go_step; exact hK _ _ rfl (Below.refl _ _) rfl)⟩), stH (fun u w3 hC hd => .inl ⟨rfl, fun Q K hK => by (have hu := bis (w := w3) (hd 2 rfl); rw [hu] at hK ⊢; clear hu; go_step; exact hK _ _ rfl (Below.refl _ _) rfl)⟩), stH (fun u w3 hC hd => .inl ⟨by (have hu := bis (w := w3) (hd 3 rfl); rw [hu]; rfl), fun Q K hK => by (go_step; exact hK _ _ rfl (Below.refl _ _) rfl)⟩), stH (fun u w3 hC hd => .inl ⟨by (have hu := bis (w := w3) (hd 3 rfl); rw [hu]; rfl), fun Q K hK => by (have hu := bis (w := w3) (hd 4 rfl); rw [hu] at hK ⊢; clear hu; have z0 := (hC.cell (p := ⟨w.heap.size, 0, none⟩) hl).trans q0; go_step; exact hK _ _ rfl (Below.refl _ _) rfl)⟩), stH (fun u w3 hC hd => .inl ⟨by (have hu := bis (w := w3) (hd 3 rfl); rw [hu]; rfl), fun Q K hK => by (have hu := bis (w := w3) (hd 5 rfl); rw [hu] at hK ⊢; clear hu; go_step; exact hK _ _ rfl (Below.refl _ _) (by first | exact congrArg Value.bool (decide_eq_false (by omega)) | rfl))⟩), stH (fun u w3 hC hd => .inl ⟨rfl, fun Q K hK => by (have hu := bis (w := w3) (hd 3 rfl); rw [hu] at hK ⊢; clear hu; have hu := bis (w := w3) (hd 6 rfl); rw [hu] at hK ⊢; clear hu; go_step; exact hK _ _ rfl (Below.refl _ _) rfl)⟩), stH (fun u w3 hC hd => .inl ⟨rfl, fun Q K hK => by (have hu := bis (w := w3) (hd 7 rfl); rw [hu] at hK ⊢; clear hu; go_step; exact hK _ _ rfl (Below.refl _ _) rfl)⟩), stH (fun u w3 hC hd => .inr ⟨by (have hu := bis (w := w3) (hd 8 rfl); rw [hu]; rfl), rfl⟩), stH (fun u w3 hC hd => .inr ⟨by (have hu := bis (w := w3) (hd 8 rfl); rw [hu]; rfl), rfl⟩), stH (fun u w3 hC hd => .inr ⟨by (have hu := bis (w := w3) (hd 8 rfl); rw [hu]; rfl), rfl⟩), stH (fun u w3 hC hd => .inl ⟨rfl, fun Q K hK => by (have hu := bis (w := w3) (hd 8 rfl); rw [hu] at hK ⊢; clear hu; go_step; exact hK _ _ rfl (Below.refl _ _) rfl)⟩), stH (fun u w3 hC hd => .inl ⟨rfl, fun Q K hK => by (have hu := bis (w := w3) (hd 12 rfl); rw [hu] at hK ⊢; clear hu; go_step; exact hK _ _ rfl (Below.refl _ _) rfl)⟩), stH (fun u w3 hC hd => .inr ⟨by (have hu := bis (w := w3) (hd 13 rfl); rw [hu]; rfl), rfl⟩), stH (fun u w3 hC hd => .inr ⟨by (have hu := bis (w := w3) (hd 13 rfl); rw [hu]; rfl), rfl⟩), stH (fun u w3 hC hd => .inr ⟨by (have hu := bis (w := w3) (hd 13 rfl); rw [hu]; rfl), rfl⟩), stH (fun u w3 hC hd => .inr ⟨by (have hu := bis (w := w3) (hd 13 rfl); rw [hu]; rfl), rfl⟩), stH (fun u w3 hC hd => .inr ⟨by (have hu := bis (w := w3) (hd 13 rfl); rw [hu]; rfl), rfl⟩), stH (fun u w3 hC hd => .inl ⟨rfl, fun Q K hK => by (have hu := bis (w := w3) (hd 13 rfl); rw [hu] at hK ⊢; clear hu; go_step; exact hK _ _ rfl (Below.refl _ _) rfl)⟩), stH (fun u w3 hC hd => .inl ⟨rfl, fun Q K hK => by (have hu := bis (w := w3) (hd 19 rfl); rw [hu] at hK ⊢; clear hu; go_step; exact hK _ _ rfl (Below.refl _ _) rfl)⟩), stH (fun u w3 hC hd => .inr ⟨by (have hu := bis (w := w3) (hd 20 rfl); rw [hu]; rfl), rfl⟩), stH (fun u w3 hC hd => .inr ⟨by (have hu := bis (w := w3) (hd 20 rfl); rw [hu]; rfl), rfl⟩), stH (fun u w3 hC hd => .inr ⟨by (have hu := bis (w := w3) (hd 20 rfl); rw [hu]; rfl), rfl⟩), stH (fun u w3 hC hd => .inr ⟨by (have hu := bis (w := w3) (hd 20 rfl); rw [hu]; rfl), rfl⟩), stH (fun u w3 hC hd => .inr ⟨by (have hu := bis (w := w3) (hd 20 rfl); rw [hu]; rfl), rfl⟩), stH (fun u w3 hC hd => .inr ⟨by (have hu := bis (w := w3) (hd 20 rfl); rw [hu]; rfl), rfl⟩), stH (fun u w3 hC hd => .inl ⟨rfl, fun Q K hK => by (have hu := bis (w := w3) (hd 20 rfl); rw [hu] at hK ⊢; clear hu; go_step; exact hK _ _ rfl (Below.refl _ _) rfl)⟩), stH (fun u w3 hC hd => .inl ⟨rfl, fun Q K hK => by (have hu := bis (w := w3) (hd 27 rfl); rw [hu] at hK ⊢; clear hu; go_step; exact hK _ _ rfl (Below.refl _ _) rfl)⟩), trivial⟩); intro u w9 hb_w9 hF; rw [bis (w := w9) (hF 0 (by decide))]; rw [bis (w := w9) (hF 1 (by decide))]; rw [bis (w := w9) (hF 2 (by decide))]; rw [bis (w := w9) (hF 3 (by decide))]; rw [bis (w := w9) (hF 4 (by decide))]; rw [bis (w := w9) (hF 5 (by decide))]; generalize u 6 = vx6 at *; rw [bis (w := w9) (hF 7 (by decide))]; rw [bis (w := w9) (hF 8 (by decide))]; rw [bis (w := w9) (hF 9 (by decide))]; rw [bis (w := w9) (hF 10 (by decide))]; rw [bis (w := w9) (hF 11 (by decide))]; rw [bis (w := w9) (hF 12 (by decide))]; rw [bis (w := w9) (hF 13 (by decide))]; rw [bis (w := w9) (hF 14 (by decide))]; rw [bis (w := w9) (hF 15 (by decide))]; rw [bis (w := w9) (hF 16 (by decide))]; rw [bis (w := w9) (hF 17 (by decide))]; rw [bis (w := w9) (hF 18 (by decide))]; rw [bis (w := w9) (hF 19 (by decide))]; rw [bis (w := w9) (hF 20 (by decide))]; rw [bis (w := w9) (hF 21 (by decide))]; rw [bis (w := w9) (hF 22 (by decide))]; rw [bis (w := w9) (hF 23 (by decide))]; rw [bis (w := w9) (hF 24 (by decide))]; rw [bis (w := w9) (hF 25 (by decide))]; rw [bis (w := w9) (hF 26 (by decide))]; rw [bis (w := w9) (hF 27 (by decide))]; rw [bis (w := w9) (hF 28 (by decide))]; clear hF
      go_wp2
      go_ret
      exact ⟨rfl, hal.trans (hb_w9.mono hal.size)⟩
  · obtain rfl : r = false := by rw [← HR.out, HU.out, decide_eq_false h0]; simp
    go_enter Tryd.func65, Tryd.ntmps65
    go_wp2_with fail
    (refine wp_region_belH (W := W) [BIs (.pointer (some ⟨w.heap.size, 0, none⟩)), BIs (.int .i64 f), (BIs (.bool false)), BIs (.bool false), BIs undef, BIs undef, BIs undef, BIs (.bool false), BIs (.bool false), BIs undef, BIs undef, BIs undef, BIs (.bool false), BIs (.bool false), BIs undef, BIs undef, BIs undef, BIs undef, BIs undef, BIs (.bool false), BIs (.bool false), BIs undef, BIs undef, BIs undef, BIs undef, BIs undef, BIs undef, BIs (.bool false), BIs (.bool false)] (by kernel_rfl) (fun u => by simp only [frU, Act.put, List.setIfInBounds_toArray, List.set_cons_succ, List.set_cons_zero, Nat.zero_add, Nat.reduceAdd]; exact rfl) (by kernel_rfl) ⟨bst_is _, bst_is _, (bst_is _), bst_is _, bst_is _, bst_is _, bst_is _, bst_is _, bst_is _, bst_is _, bst_is _, bst_is _, bst_is _, bst_is _, bst_is _, bst_is _, bst_is _, bst_is _, bst_is _, bst_is _, bst_is _, bst_is _, bst_is _, bst_is _, bst_is _, bst_is _, bst_is _, bst_is _, bst_is _, trivial⟩ ?_ ?_; exact ⟨stH (fun u w3 hC hd => .inl ⟨rfl, fun Q K hK => by (go_step; exact hK _ _ rfl (Below.refl _ _) rfl)⟩), stH (fun u w3 hC hd => .inl ⟨rfl, fun Q K hK => by (have hu := bis (w := w3) (hd 0 rfl); rw [hu] at hK ⊢; clear hu; have z0 := (hC.cell (p := ⟨w.heap.size, 0, none⟩) hl).trans q0; go_step; exact hK _ _ rfl (Below.refl _ _) rfl)⟩), stH (fun u w3 hC hd => .inl ⟨rfl, fun Q K hK => by (have hu := bis (w := w3) (hd 1 rfl); rw [hu] at hK ⊢; clear hu; go_step; exact hK _ _ rfl (Below.refl _ _) (by first | exact congrArg Value.bool (decide_eq_false (by omega)) | rfl))⟩), stH (fun u w3 hC hd => .inl ⟨rfl, fun Q K hK => by (have hu := bis (w := w3) (hd 2 rfl); rw [hu] at hK ⊢; clear hu; go_step; exact hK _ _ rfl (Below.refl _ _) rfl)⟩), stH (fun u w3 hC hd => .inr ⟨by (have hu := bis (w := w3) (hd 3 rfl); rw [hu]; rfl), rfl⟩), stH (fun u w3 hC hd => .inr ⟨by (have hu := bis (w := w3) (hd 3 rfl); rw [hu]; rfl), rfl⟩), stH (fun u w3 hC hd => .inr ⟨by (have hu := bis (w := w3) (hd 3 rfl); rw [hu]; rfl), rfl⟩), stH (fun u w3 hC hd => .inl ⟨rfl, fun Q K hK => by (have hu := bis (w := w3) (hd 3 rfl); rw [hu] at hK ⊢; clear hu; go_step; exact hK _ _ rfl (Below.refl _ _) rfl)⟩), stH (fun u w3 hC hd => .inl ⟨rfl, fun Q K hK => by (have hu := bis (w := w3) (hd 7 rfl); rw [hu] at hK ⊢; clear hu; go_step; exact hK _ _ rfl (Below.refl _ _) rfl)⟩), stH (fun u w3 hC hd => .inr ⟨by (have hu := bis (w := w3) (hd 8 rfl); rw [hu]; rfl), rfl⟩), stH (fun u w3 hC hd => .inr ⟨by (have hu := bis (w := w3) (hd 8 rfl); rw [hu]; rfl), rfl⟩), stH (fun u w3 hC hd => .inr ⟨by (have hu := bis (w := w3) (hd 8 rfl); rw [hu]; rfl), rfl⟩), stH (fun u w3 hC hd => .inl ⟨rfl, fun Q K hK => by (have hu := bis (w := w3) (hd 8 rfl); rw [hu] at hK ⊢; clear hu; go_step; exact hK _ _ rfl (Below.refl _ _) rfl)⟩), stH (fun u w3 hC hd => .inl ⟨rfl, fun Q K hK => by (have hu := bis (w := w3) (hd 12 rfl); rw [hu] at hK ⊢; clear hu; go_step; exact hK _ _ rfl (Below.refl _ _) rfl)⟩), stH (fun u w3 hC hd => .inr ⟨by (have hu := bis (w := w3) (hd 13 rfl); rw [hu]; rfl), rfl⟩), stH (fun u w3 hC hd => .inr ⟨by (have hu := bis (w := w3) (hd 13 rfl); rw [hu]; rfl), rfl⟩), stH (fun u w3 hC hd => .inr ⟨by (have hu := bis (w := w3) (hd 13 rfl); rw [hu]; rfl), rfl⟩), stH (fun u w3 hC hd => .inr ⟨by (have hu := bis (w := w3) (hd 13 rfl); rw [hu]; rfl), rfl⟩), stH (fun u w3 hC hd => .inr ⟨by (have hu := bis (w := w3) (hd 13 rfl); rw [hu]; rfl), rfl⟩), stH (fun u w3 hC hd => .inl ⟨rfl, fun Q K hK => by (have hu := bis (w := w3) (hd 13 rfl); rw [hu] at hK ⊢; clear hu; go_step; exact hK _ _ rfl (Below.refl _ _) rfl)⟩), stH (fun u w3 hC hd => .inl ⟨rfl, fun Q K hK => by (have hu := bis (w := w3) (hd 19 rfl); rw [hu] at hK ⊢; clear hu; go_step; exact hK _ _ rfl (Below.refl _ _) rfl)⟩), stH (fun u w3 hC hd => .inr ⟨by (have hu := bis (w := w3) (hd 20 rfl); rw [hu]; rfl), rfl⟩), stH (fun u w3 hC hd => .inr ⟨by (have hu := bis (w := w3) (hd 20 rfl); rw [hu]; rfl), rfl⟩), stH (fun u w3 hC hd => .inr ⟨by (have hu := bis (w := w3) (hd 20 rfl); rw [hu]; rfl), rfl⟩), stH (fun u w3 hC hd => .inr ⟨by (have hu := bis (w := w3) (hd 20 rfl); rw [hu]; rfl), rfl⟩), stH (fun u w3 hC hd => .inr ⟨by (have hu := bis (w := w3) (hd 20 rfl); rw [hu]; rfl), rfl⟩), stH (fun u w3 hC hd => .inr ⟨by (have hu := bis (w := w3) (hd 20 rfl); rw [hu]; rfl), rfl⟩), stH (fun u w3 hC hd => .inl ⟨rfl, fun Q K hK => by (have hu := bis (w := w3) (hd 20 rfl); rw [hu] at hK ⊢; clear hu; go_step; exact hK _ _ rfl (Below.refl _ _) rfl)⟩), stH (fun u w3 hC hd => .inl ⟨rfl, fun Q K hK => by (have hu := bis (w := w3) (hd 27 rfl); rw [hu] at hK ⊢; clear hu; go_step; exact hK _ _ rfl (Below.refl _ _) rfl)⟩), trivial⟩); intro u w9 hb_w9 hF; rw [bis (w := w9) (hF 0 (by decide))]; rw [bis (w := w9) (hF 1 (by decide))]; generalize u 2 = vx2 at *; rw [bis (w := w9) (hF 3 (by decide))]; rw [bis (w := w9) (hF 4 (by decide))]; rw [bis (w := w9) (hF 5 (by decide))]; rw [bis (w := w9) (hF 6 (by decide))]; rw [bis (w := w9) (hF 7 (by decide))]; rw [bis (w := w9) (hF 8 (by decide))]; rw [bis (w := w9) (hF 9 (by decide))]; rw [bis (w := w9) (hF 10 (by decide))]; rw [bis (w := w9) (hF 11 (by decide))]; rw [bis (w := w9) (hF 12 (by decide))]; rw [bis (w := w9) (hF 13 (by decide))]; rw [bis (w := w9) (hF 14 (by decide))]; rw [bis (w := w9) (hF 15 (by decide))]; rw [bis (w := w9) (hF 16 (by decide))]; rw [bis (w := w9) (hF 17 (by decide))]; rw [bis (w := w9) (hF 18 (by decide))]; rw [bis (w := w9) (hF 19 (by decide))]; rw [bis (w := w9) (hF 20 (by decide))]; rw [bis (w := w9) (hF 21 (by decide))]; rw [bis (w := w9) (hF 22 (by decide))]; rw [bis (w := w9) (hF 23 (by decide))]; rw [bis (w := w9) (hF 24 (by decide))]; rw [bis (w := w9) (hF 25 (by decide))]; rw [bis (w := w9) (hF 26 (by decide))]; rw [bis (w := w9) (hF 27 (by decide))]; rw [bis (w := w9) (hF 28 (by decide))]; clear hF
    go_wp2
    go_ret
    exact ⟨rfl, hal.trans (hb_w9.mono hal.size)⟩
set_option maxHeartbeats 2000000 in
set_option maxRecDepth 100000 in
theorem implTsV_any {lo : Nat} (xs : List Te) (v : Value) (w : World) (hs : Tss lo w v xs) (ht : Tab w) :
    Calls Tryd.prog 56 #[v] w fun e w' => e = .returned (.bool (tsvalid xs)) ∧ Below w.heap.size w w' := by
  obtain ⟨a, cap, rfl, hlc, hcm⟩ := hs.form
  unfold maxLen at hcm
  generalize hn : xs.length = n at *
  have HN := Lib.hid hn
  have HS := Lib.hid hs
  have HT := Lib.hid ht
  clear hn hs ht
  by_cases hbig : 6 < (n : Int)
  · have HF := Lib.hid (show tsvalid xs = false by unfold tsvalid; rw [HN.out, decide_eq_false (show ¬ n ≤ 6 by omega), Bool.and_false])
    go_enter Tryd.func56, Tryd.ntmps56
    go_wp2
    go_ret
    exact ⟨ret_bool HF.out.symm, Below.refl _ _⟩
  · have hsm : n ≤ 6 := by omega
    have HV := Lib.hid (show tsvalid xs = xs.all Te.ok by unfold tsvalid; rw [HN.out, decide_eq_true hsm, Bool.and_true])
    go_enter Tryd.func56, Tryd.ntmps56
    go_wp2_with fail
    go_loopw [4, 10] (fun _ i wr => ∃ k : Nat, k ≤ n ∧ i = .int .i64 k ∧ Hid ((xs.take k).all Te.ok = true) ∧ Below w.heap.size w wr) (fun _ i _ => n - (intOf i).toNat)
    case atStart => exact ⟨0, by omega, rfl, Lib.hid (by simp), Below.refl _ _⟩
    case round =>
      obtain ⟨k, hk, rfl, HG, hbr⟩ := hrel
      have hzr := hbr.size
      by_cases hlt : k < n
      · have i1 : (k : Int) < (n : Int) := by omega
        have i2 : (0 : Int) ≤ (k : Int) := by omega
        obtain ⟨b, o, f, tl, th, q, rfl, hbl, hx, c0, c1, c2, c3⟩ := ((HS.out.below hbr).z).at (show k < xs.length by rw [HN.out]; exact hlt)
        obtain ⟨r, hr⟩ : ∃ r, (⟨f, tl, th, q⟩ : Te).ok = r := ⟨_, rfl⟩
        have HR := Lib.hid hr
        have HX := Lib.hid hx
        have hal : Below wr.heap.size wr (wr.alloc (.cells #[.int .i64 f, .int .i64 tl, .int .i64 th, .bool q] 108)) := (Below.refl _ _).alloc (Nat.le_refl _) _
        have HTR := Lib.hid (HT.out.below (hbr.trans (hal.mono hzr)))
        clear hx hr
        go_wp2_with fail
        refine (implTV_b (show tvalid1 f tl th = r from HR.out) _ HTR.out).mono ?_
        rintro e w2 ⟨rfl, hb2⟩
        have hw2 : Below w.heap.size w w2 := hbr.trans ((hal.trans (hb2.mono hal.size)).mono hzr)
        clear hb2
        cases r
        · have HF := Lib.hid (show tsvalid xs = false by
            rw [HV.out]
            exact List.all_eq_false.2 ⟨_, List.mem_of_getElem? HX.out, by rw [HR.out]; simp⟩)
          go_wp2
          go_ret
          exact ⟨ret_bool HF.out.symm, hw2⟩
        · have HG2 := Lib.hid (show (xs.take (k + 1)).all Te.ok = true by rw [List.take_add_one, HX.out, Option.toList_some, List.all_append, HG.out, List.all_cons, HR.out]; simp)
          go_wp2
          go_roundw
          case rel => exact ⟨k + 1, by omega, by go_num, HG2, hw2⟩
          case measure => simp [intOf]; omega
      · have HF := Lib.hid (show tsvalid xs = true by
          rw [HV.out]
          have := HG.out
          rwa [List.take_of_length_le (by rw [HN.out]; omega)] at this)
        go_wp2
        go_ret
        exact ⟨ret_bool HF.out.symm, hbr⟩
theorem implTsV_b {lo : Nat} {xs : List Te} {v : Value} {w : World} {r : Bool} (hs : Tss lo w v xs) (ht : Tab w) (h : tsvalid xs = r) :
    Calls Tryd.prog 56 #[v] w fun e w' => e = .returned (.bool r) ∧ Below w.heap.size w w' := by
  subst h
  exact implTsV_any xs v w hs ht
theorem ruok_eq (ts : List Te) (a c : Int) : (⟨ts, a, c⟩ : Ru).ok = (tsvalid ts && inB a 1 5 && ((a == 3 && inB c 0 4) || (a != 3 && c == 0))) := rfl
set_option maxHeartbeats 2000000 in
set_option maxRecDepth 100000 in
theorem implRuV_b {lo : Nat} {ts : List Te} {a c : Int} {v : Value} {w : World} {r : Bool} (hs : Tss lo w v ts) (ht : Tab w) (h : (⟨ts, a, c⟩ : Ru).ok = r) :
    Calls Tryd.prog 46 #[.agg #[v, .int .i64 a, .int .i64 c]] w fun e w' => e = .returned (.bool r) ∧ Below w.heap.size w w' := by
  obtain ⟨sa, sc, rfl, -, -⟩ := hs.form
  obtain ⟨W, hW⟩ : ∃ W, w.alloc (.cells #[.slice sa ts.length sc, .int .i64 a, .int .i64 c] 34) = W := ⟨_, rfl⟩
  have hal : Below w.heap.size w W := by rw [← hW]; exact (Below.refl _ _).alloc (Nat.le_refl _) _
  have hl : w.heap.size < W.heap.size := by rw [← hW]; simp
  have q0 : W.cell? ⟨w.heap.size, 0, none⟩ = some (.slice sa ts.length sc) := by rw [← hW]; simp
  have q1 : W.cell? ⟨w.heap.size, 1, none⟩ = some (.int .i64 a) := by rw [← hW]; simp
  have q2 : W.cell? ⟨w.heap.size, 2, none⟩ = some (.int .i64 c) := by rw [← hW]; simp
  have HS := Lib.hid (hs.below hal)
  have HT := Lib.hid (ht.below hal)
  rw [ruok_eq] at h
  obtain ⟨rt, hrt⟩ : ∃ r, tsvalid ts = r := ⟨_, rfl⟩
  rw [hrt] at h
  have HR := Lib.hid h
  have HRT := Lib.hid hrt
  clear hs ht h hrt
  go_enter Tryd.func46, Tryd.ntmps46
  go_wp2_with fail
  refine (implTsV_b HS.out HT.out HRT.out).mono ?_
  rintro e w1 ⟨rfl, hb1⟩
  have hw1 := hal.trans (hb1.mono hal.size)
  have p1 := (hb1.cell (p := ⟨w.heap.size, 1, none⟩) hl).trans q1
  have p2 := (hb1.cell (p := ⟨w.heap.size, 2, none⟩) hl).trans q2
  have hl1 := Nat.lt_of_lt_of_le hl hb1.size
  clear q0 q1 q2 hb1
  cases rt
  · obtain rfl : r = false := by rw [← HR.out]; simp
    go_wp2
    go_ret
    exact ⟨rfl, hw1⟩
  · by_cases h3 : a = 3
    · subst h3
      by_cases k0 : 0 ≤ c
      · by_cases k1 : c < 5
        · obtain rfl : r = true := by rw [← HR.out, inB_and, inB_and]; simp; omega
          go_wp2
          go_ret
          exact ⟨by first | rfl | exact ret_bool (decide_eq_true (by omega)), hw1⟩
        · obtain rfl : r = false := by rw [← HR.out, inB_and, inB_and]; simp; omega
          go_wp2
          go_ret
          exact ⟨by first | rfl | exact ret_bool (decide_eq_false (by omega)), hw1⟩
      · obtain rfl : r = false := by rw [← HR.out, inB_and, inB_and]; simp; omega
        go_wp2
        go_ret
        exact ⟨by first | rfl | exact ret_bool (decide_eq_false (by omega)), hw1⟩
    · have h3b : (a == 3) = false := by simpa using h3
      by_cases hin : a = 1 ∨ a = 2 ∨ a = 4 ∨ a = 5
      · obtain ⟨z, hz⟩ : ∃ z : Bool, (c == 0) = z := ⟨_, rfl⟩
        obtain rfl : r = z := by
          rw [← HR.out, ← hz]
          rcases hin with rfl | rfl | rfl | rfl <;> simp [inB]
        have HZ := Lib.hid hz
        rcases hin with rfl | rfl | rfl | rfl
        all_goals
          go_wp2
          go_ret
          exact ⟨by first | rfl | exact ret_bool HZ.out, hw1⟩
      · have n1 : (a == 1) = false := by simp; omega
        have n2 : (a == 2) = false := by simp; omega
        have n4 : (a == 4) = false := by simp; omega
        have n5 : (a == 5) = false := by simp; omega
        obtain rfl : r = false := by
          rw [← HR.out]
          have : inB a 1 5 = false := by
            rw [inB_and]
            by_cases e1 : 1 ≤ a
            · have e2 : ¬ a ≤ 5 := by omega
              simp [e2]
            · simp [e1]
          rw [this]; simp
        go_wp2
        go_ret
        exact ⟨rfl, hw1⟩
set_option maxHeartbeats 2000000 in
set_option maxRecDepth 100000 in
theorem implRsV_any {lo : Nat} (xs : List Ru) (v : Value) (w : World) (hs : Rus lo w v xs) (ht : Tab w) :
    Calls Tryd.prog 28 #[v] w fun e w' => e = .returned (.bool (rusvalid xs)) ∧ Below w.heap.size w w' := by
  obtain ⟨a, cap, rfl, hlc, hcm⟩ := hs.form
  unfold maxLen at hcm
  generalize hn : xs.length = n at *
  have HN := Lib.hid hn
  have HS := Lib.hid hs
  have HT := Lib.hid ht
  clear hn hs ht
  by_cases hbig : 8 < (n : Int)
  · have HF := Lib.hid (show rusvalid xs = false by unfold rusvalid; rw [HN.out, decide_eq_false (show ¬ n ≤ 8 by omega), Bool.and_false])
    go_enter Tryd.func28, Tryd.ntmps28
    go_wp2
    go_ret
    exact ⟨ret_bool HF.out.symm, Below.refl _ _⟩
  · have hsm : n ≤ 8 := by omega
    have HV := Lib.hid (show rusvalid xs = xs.all Ru.ok by unfold rusvalid; rw [HN.out, decide_eq_true hsm, Bool.and_true])
    go_enter Tryd.func28, Tryd.ntmps28
    go_wp2_with fail
    go_loopw [4, 10] (fun _ i wr => ∃ k : Nat, k ≤ n ∧ i = .int .i64 k ∧ Hid ((xs.take k).all Ru.ok = true) ∧ Below w.heap.size w wr) (fun _ i _ => n - (intOf i).toNat)
    case atStart => exact ⟨0, by omega, rfl, Lib.hid (by simp), Below.refl _ _⟩
    case round =>
      obtain ⟨k, hk, rfl, HG, hbr⟩ := hrel
      have hzr := hbr.size
      by_cases hlt : k < n
      · have i1 : (k : Int) < (n : Int) := by omega
        have i2 : (0 : Int) ≤ (k : Int) := by omega
        obtain ⟨x, hx⟩ : ∃ x, xs[k]? = some x := ⟨_, List.getElem?_eq_getElem (by rw [HN.out]; exact hlt)⟩
        obtain ⟨b, o, sv, rfl, hbl, c0, c1, c2, hsv⟩ := (HS.out.below hbr).at hx
        obtain ⟨sa, sc, rfl, -, -⟩ := hsv.form
        obtain ⟨ts, ra, rc⟩ := x
        simp only at c0 c1 c2 hsv
        have HSV := Lib.hid hsv
        clear hsv
        obtain ⟨r, hr⟩ : ∃ r, (⟨ts, ra, rc⟩ : Ru).ok = r := ⟨_, rfl⟩
        have HR := Lib.hid hr
        have HX := Lib.hid hx
        have hal : Below wr.heap.size wr (wr.alloc (.cells #[.slice sa ts.length sc, .int .i64 ra, .int .i64 rc] 34)) := (Below.refl _ _).alloc (Nat.le_refl _) _
        have HTR := Lib.hid (HT.out.below (hbr.trans (hal.mono hzr)))
        clear hx hr
        go_wp2_with fail
        refine (implRuV_b (HSV.out.below hal) HTR.out HR.out).mono ?_
        rintro e w2 ⟨rfl, hb2⟩
        have hw2 : Below w.heap.size w w2 := hbr.trans ((hal.trans (hb2.mono hal.size)).mono hzr)
        clear hb2
        cases r
        · have HF := Lib.hid (show rusvalid xs = false by
            rw [HV.out]
            exact List.all_eq_false.2 ⟨_, List.mem_of_getElem? HX.out, by rw [HR.out]; simp⟩)
          go_wp2
          go_ret
          exact ⟨ret_bool HF.out.symm, hw2⟩
        · have HG2 := Lib.hid (show (xs.take (k + 1)).all Ru.ok = true by rw [List.take_add_one, HX.out, Option.toList_some, List.all_append, HG.out, List.all_cons, HR.out]; simp)
          go_wp2
          go_roundw
          case rel => exact ⟨k + 1, by omega, by go_num, HG2, hw2⟩
          case measure => simp [intOf]; omega
      · have HF := Lib.hid (show rusvalid xs = true by
          rw [HV.out]
          have := HG.out
          rwa [List.take_of_length_le (by rw [HN.out]; omega)] at this)
        go_wp2
        go_ret
        exact ⟨ret_bool HF.out.symm, hbr⟩
theorem implRsV_b {lo : Nat} {xs : List Ru} {v : Value} {w : World} {r : Bool} (hs : Rus lo w v xs) (ht : Tab w) (h : rusvalid xs = r) :
    Calls Tryd.prog 28 #[v] w fun e w' => e = .returned (.bool r) ∧ Below w.heap.size w w' := by
  subst h
  exact implRsV_any xs v w hs ht
end Go.Proofs.YtfcbbahlhjdefaaDoor
