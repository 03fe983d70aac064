/- BoxMeet (both), BoxSame, BoxWithin and RegionLess (the program's). -/
import Derived.Test.YtajcogpfmpehkaaDoorNoX
import Derived.Test.YtajcogpfmpehkaaDoorNwX
import Derived.Test.YtajcogpfmpehkaaDoorMbW
import Derived.Test.YtajcogpfmpehkaaDoorMbI
import Derived.Test.YtajcogpfmpehkaaDoorMbMf
import Derived.Test.YtajcogpfmpehkaaDoorRgH
import Derived.Test.YtajcogpfmpehkaaDoorRgCL
import Derived.Test.YtajcogpfmpehkaaDoorDxBT
import Derived.Test.YtajcogpfmpehkaaDoorLvS
import Derived.Test.YtajcogpfmpehkaaDoorFnX
namespace Go.Proofs.YtajcogpfmpehkaaDoor
open Go.RowKit
def meetB (a b : Bx) : Option Bx := if bvalid (bmeet a b) then some (bmeet a b) else none
def meetV (a b : Bx) : Option Bx := if bvalid a && bvalid b then meetB a b else none
theorem meetV_yes {a b : Bx} (ha : bvalid a = true) (hb : bvalid b = true) : meetV a b = meetB a b := by unfold meetV; rw [ha, hb]; rfl
theorem meetV_no {a b : Bx} (h : bvalid a = false ∨ bvalid b = false) : meetV a b = none := by
  unfold meetV
  rcases h with h | h
  · rw [h]; rfl
  · rw [h, Bool.and_false]; rfl
theorem meetV_some {a b c : Bx} (h : meetV a b = some c) : c = bmeet a b ∧ bvalid c = true := by
  unfold meetV at h
  split at h
  · unfold meetB at h
    split at h
    · rename_i h2
      cases h; exact ⟨rfl, h2⟩
    · cases h
  · cases h
theorem meetV_valid {a b c : Bx} (h : meetV a b = some c) : bvalid c = true := (meetV_some h).2
set_option maxHeartbeats 2000000 in
set_option maxRecDepth 100000 in
theorem implBW_b {lo lo' : Nat} {a b : Bx} {u v : Value} {w : World} {r : Bool} (hs : Rws lo w u a) (hu : Rws lo' w v b) (ht : Tab w) (h : (bvalid a && bvalid b && bwithin a b) = r) :
    Calls Tryd.prog 28 #[.agg #[u], .agg #[v]] w fun e w' => e = .returned (.bool r) ∧ Below w.heap.size w w' := by
  obtain ⟨ua, uc, rfl, -, -⟩ := hs.form
  obtain ⟨va, vc, rfl, -, -⟩ := hu.form
  obtain ⟨ra, hra⟩ : ∃ r, bvalid a = r := ⟨_, rfl⟩
  obtain ⟨rb, hrb⟩ : ∃ r, bvalid b = r := ⟨_, rfl⟩
  have HRA := Lib.hid hra
  have HRB := Lib.hid hrb
  have HS := Lib.hid hs
  have HU := Lib.hid hu
  have HT := Lib.hid ht
  have HR := Lib.hid h
  clear hs hu h ht
  obtain ⟨W, hW⟩ : ∃ W, (w.alloc (.cells #[.slice ua a.length uc] 32)).alloc (.cells #[.slice va b.length vc] 32) = W := ⟨_, rfl⟩
  have hal : Below w.heap.size w W := by rw [← hW]; (repeat' (first | with_reducible exact Below.refl _ _ | with_reducible assumption | with_reducible refine Below.setCell ?_ ?_ _ | with_reducible refine Below.alloc ?_ ?_ _ | with_reducible refine Below.drew ?_ | with_reducible refine belDrewN ?_ _ | with_reducible refine Below.trans ?_ (Below.mono (by assumption) ?_) | omega | (simp; omega) | (simp; done)))
  have HA2 := alloc2_cf w #[.slice ua a.length uc] #[.slice va b.length vc] 32 32
  rw [hW] at HA2
  have qs : W.heap.size = w.heap.size + 1 + 1 := by rw [← hW]; simp
  have q0 : W.cell? ⟨w.heap.size, 0, none⟩ = some (.slice ua a.length uc) := by rw [(HA2.1 0).1]; rfl
  have p0 : W.cell? ⟨w.heap.size + 1, 0, none⟩ = some (.slice va b.length vc) := by rw [(HA2.2 0).1]; rfl
  have HS2 := Lib.hid (HS.out.below hal)
  have HU2 := Lib.hid (HU.out.below hal)
  have HT2 := Lib.hid (HT.out.below hal)
  generalize a.length = la at *
  generalize b.length = lb at *
  clear HA2
  have hl1 : w.heap.size < W.heap.size := by omega
  have hl2 : w.heap.size + 1 < W.heap.size := by omega
  go_enter Tryd.func28, Tryd.ntmps28
  rw [hra, hrb] at HR
  cases ra
  · obtain rfl : r = false := by rw [← HR.out]; rfl
    go_wp2_with fail
    (refine wp_region_belH (W := W) [BIs (.agg #[.slice ua la uc]), (BIs (.bool false)), BIs (.bool false), BIs undef, BIs undef, BIs (.bool false), BIs (.bool false), BIs undef, BIs undef, BIs undef, BIs undef, BIs undef, BIs (.bool false), BIs (.bool false)] (by kernel_rfl) (fun u => by simp only [frU, Act.put, List.setIfInBounds_toArray, List.set_cons_succ, List.set_cons_zero, Nat.zero_add, Nat.reduceAdd]; exact rfl) (by kernel_rfl) ⟨bst_is _, (bst_is _), bst_is _, bst_is _, bst_is _, bst_is _, bst_is _, bst_is _, bst_is _, bst_is _, bst_is _, bst_is _, bst_is _, bst_is _, trivial⟩ ?_ ?_; exact ⟨stH (fun u w3 hC hd => .inl ⟨rfl, fun Q K hK => by (have z0 := (hC.cell (p := ⟨w.heap.size, 0, none⟩) hl1).trans q0; go_step; exact hK _ _ rfl (Below.refl _ _) rfl)⟩), stH (fun u w3 hC hd => .inl ⟨rfl, fun Q K hK => by (have hu := bis (w := w3) (hd 0 rfl); rw [hu] at hK ⊢; clear hu; go_step; refine (implBV_b (HS2.out.below hC) (HT2.out.below hC) HRA.out).mono ?_; rintro e w4 ⟨rfl, hb4⟩; exact hK _ _ rfl hb4 rfl)⟩), stH (fun u w3 hC hd => .inl ⟨rfl, fun Q K hK => by (have hu := bis (w := w3) (hd 1 rfl); rw [hu] at hK ⊢; clear hu; go_step; exact hK _ _ rfl (Below.refl _ _) rfl)⟩), stH (fun u w3 hC hd => .inr ⟨by (have hu := bis (w := w3) (hd 2 rfl); rw [hu]; rfl), rfl⟩), stH (fun u w3 hC hd => .inr ⟨by (have hu := bis (w := w3) (hd 2 rfl); rw [hu]; rfl), rfl⟩), stH (fun u w3 hC hd => .inl ⟨rfl, fun Q K hK => by (have hu := bis (w := w3) (hd 2 rfl); rw [hu] at hK ⊢; clear hu; go_step; exact hK _ _ rfl (Below.refl _ _) rfl)⟩), stH (fun u w3 hC hd => .inl ⟨rfl, fun Q K hK => by (have hu := bis (w := w3) (hd 5 rfl); rw [hu] at hK ⊢; clear hu; go_step; exact hK _ _ rfl (Below.refl _ _) rfl)⟩), stH (fun u w3 hC hd => .inr ⟨by (have hu := bis (w := w3) (hd 6 rfl); rw [hu]; rfl), rfl⟩), stH (fun u w3 hC hd => .inr ⟨by (have hu := bis (w := w3) (hd 6 rfl); rw [hu]; rfl), rfl⟩), stH (fun u w3 hC hd => .inr ⟨by (have hu := bis (w := w3) (hd 6 rfl); rw [hu]; rfl), rfl⟩), stH (fun u w3 hC hd => .inr ⟨by (have hu := bis (w := w3) (hd 6 rfl); rw [hu]; rfl), rfl⟩), stH (fun u w3 hC hd => .inr ⟨by (have hu := bis (w := w3) (hd 6 rfl); rw [hu]; rfl), rfl⟩), stH (fun u w3 hC hd => .inl ⟨rfl, fun Q K hK => by (have hu := bis (w := w3) (hd 6 rfl); rw [hu] at hK ⊢; clear hu; go_step; exact hK _ _ rfl (Below.refl _ _) rfl)⟩), stH (fun u w3 hC hd => .inl ⟨rfl, fun Q K hK => by (have hu := bis (w := w3) (hd 12 rfl); rw [hu] at hK ⊢; clear hu; go_step; exact hK _ _ rfl (Below.refl _ _) rfl)⟩), trivial⟩); intro u w9 hb_w9 hF; rw [bis (w := w9) (hF 0 (by decide))]; generalize u 1 = vx1 at *; rw [bis (w := w9) (hF 2 (by decide))]; rw [bis (w := w9) (hF 3 (by decide))]; rw [bis (w := w9) (hF 4 (by decide))]; rw [bis (w := w9) (hF 5 (by decide))]; rw [bis (w := w9) (hF 6 (by decide))]; rw [bis (w := w9) (hF 7 (by decide))]; rw [bis (w := w9) (hF 8 (by decide))]; rw [bis (w := w9) (hF 9 (by decide))]; rw [bis (w := w9) (hF 10 (by decide))]; rw [bis (w := w9) (hF 11 (by decide))]; rw [bis (w := w9) (hF 12 (by decide))]; rw [bis (w := w9) (hF 13 (by decide))]; clear hF
    go_wp2
    go_ret
    exact ⟨rfl, hal.trans (hb_w9.mono hal.size)⟩
  · cases rb
    · obtain rfl : r = false := by rw [← HR.out]; rfl
      go_wp2_with fail
      (refine wp_region_belH (W := W) [BIs (.agg #[.slice ua la uc]), (BIs (.bool true)), BIs (.bool true), BIs (.agg #[.slice va lb vc]), (BIs (.bool false)), BIs (.bool false), BIs (.bool false), BIs undef, BIs undef, BIs undef, BIs undef, BIs undef, BIs (.bool false), BIs (.bool false)] (by kernel_rfl) (fun u => by simp only [frU, Act.put, List.setIfInBounds_toArray, List.set_cons_succ, List.set_cons_zero, Nat.zero_add, Nat.reduceAdd]; exact rfl) (by kernel_rfl) ⟨bst_is _, (bst_is _), bst_is _, bst_is _, (bst_is _), bst_is _, bst_is _, bst_is _, bst_is _, bst_is _, bst_is _, bst_is _, bst_is _, bst_is _, trivial⟩ ?_ ?_; exact ⟨stH (fun u w3 hC hd => .inl ⟨rfl, fun Q K hK => by (have z0 := (hC.cell (p := ⟨w.heap.size, 0, none⟩) hl1).trans q0; go_step; exact hK _ _ rfl (Below.refl _ _) rfl)⟩), stH (fun u w3 hC hd => .inl ⟨rfl, fun Q K hK => by (have hu := bis (w := w3) (hd 0 rfl); rw [hu] at hK ⊢; clear hu; go_step; refine (implBV_b (HS2.out.below hC) (HT2.out.below hC) HRA.out).mono ?_; rintro e w4 ⟨rfl, hb4⟩; exact hK _ _ rfl hb4 rfl)⟩), stH (fun u w3 hC hd => .inl ⟨rfl, fun Q K hK => by (have hu := bis (w := w3) (hd 1 rfl); rw [hu] at hK ⊢; clear hu; go_step; exact hK _ _ rfl (Below.refl _ _) rfl)⟩), stH (fun u w3 hC hd => .inl ⟨by (have hu := bis (w := w3) (hd 2 rfl); rw [hu]; rfl), fun Q K hK => by (have z0 := (hC.cell (p := ⟨w.heap.size + 1, 0, none⟩) hl2).trans p0; go_step; exact hK _ _ rfl (Below.refl _ _) rfl)⟩), stH (fun u w3 hC hd => .inl ⟨by (have hu := bis (w := w3) (hd 2 rfl); rw [hu]; rfl), fun Q K hK => by (have hu := bis (w := w3) (hd 3 rfl); rw [hu] at hK ⊢; clear hu; go_step; refine (implBV_b (HU2.out.below hC) (HT2.out.below hC) HRB.out).mono ?_; rintro e w4 ⟨rfl, hb4⟩; exact hK _ _ rfl hb4 rfl)⟩), stH (fun u w3 hC hd => .inl ⟨rfl, fun Q K hK => by (have hu := bis (w := w3) (hd 2 rfl); rw [hu] at hK ⊢; clear hu; have hu := bis (w := w3) (hd 4 rfl); rw [hu] at hK ⊢; clear hu; go_step; exact hK _ _ rfl (Below.refl _ _) rfl)⟩), stH (fun u w3 hC hd => .inl ⟨rfl, fun Q K hK => by (have hu := bis (w := w3) (hd 5 rfl); rw [hu] at hK ⊢; clear hu; go_step; exact hK _ _ rfl (Below.refl _ _) rfl)⟩), stH (fun u w3 hC hd => .inr ⟨by (have hu := bis (w := w3) (hd 6 rfl); rw [hu]; rfl), rfl⟩), stH (fun u w3 hC hd => .inr ⟨by (have hu := bis (w := w3) (hd 6 rfl); rw [hu]; rfl), rfl⟩), stH (fun u w3 hC hd => .inr ⟨by (have hu := bis (w := w3) (hd 6 rfl); rw [hu]; rfl), rfl⟩), stH (fun u w3 hC hd => .inr ⟨by (have hu := bis (w := w3) (hd 6 rfl); rw [hu]; rfl), rfl⟩), stH (fun u w3 hC hd => .inr ⟨by (have hu := bis (w := w3) (hd 6 rfl); rw [hu]; rfl), rfl⟩), stH (fun u w3 hC hd => .inl ⟨rfl, fun Q K hK => by (have hu := bis (w := w3) (hd 6 rfl); rw [hu] at hK ⊢; clear hu; go_step; exact hK _ _ rfl (Below.refl _ _) rfl)⟩), stH (fun u w3 hC hd => .inl ⟨rfl, fun Q K hK => by (have hu := bis (w := w3) (hd 12 rfl); rw [hu] at hK ⊢; clear hu; go_step; exact hK _ _ rfl (Below.refl _ _) rfl)⟩), trivial⟩); intro u w9 hb_w9 hF; rw [bis (w := w9) (hF 0 (by decide))]; generalize u 1 = vx1 at *; rw [bis (w := w9) (hF 2 (by decide))]; rw [bis (w := w9) (hF 3 (by decide))]; generalize u 4 = vx4 at *; rw [bis (w := w9) (hF 5 (by decide))]; rw [bis (w := w9) (hF 6 (by decide))]; rw [bis (w := w9) (hF 7 (by decide))]; rw [bis (w := w9) (hF 8 (by decide))]; rw [bis (w := w9) (hF 9 (by decide))]; rw [bis (w := w9) (hF 10 (by decide))]; rw [bis (w := w9) (hF 11 (by decide))]; rw [bis (w := w9) (hF 12 (by decide))]; rw [bis (w := w9) (hF 13 (by decide))]; clear hF
      go_wp2
      go_ret
      exact ⟨rfl, hal.trans (hb_w9.mono hal.size)⟩
    · have HB := Lib.hid (show bwithin a b = r by rw [← HR.out]; rfl)
      go_wp2_with fail
      (refine wp_region_belG (W := W) [BIs (.agg #[.slice ua la uc]), (BIs (.bool true)), BIs (.bool true), BIs (.agg #[.slice va lb vc]), (BIs (.bool true)), BIs (.bool true), BIs (.bool true), BIs (.agg #[.slice ua la uc]), (fun w v => ∃ z0 z1 z2 z3, v = .agg #[z0, z1, z2, z3] ∧ All2 (Sps 0 w) [z0, z1, z2, z3] a), BIs (.agg #[.slice va lb vc]), (fun w v => ∃ z0 z1 z2 z3, v = .agg #[z0, z1, z2, z3] ∧ All2 (Sps 0 w) [z0, z1, z2, z3] b), (BIs (.bool r)), BIs (.bool r), BIs (.bool r)] (by kernel_rfl) (fun u => by simp only [frU, Act.put, List.setIfInBounds_toArray, List.set_cons_succ, List.set_cons_zero, Nat.zero_add, Nat.reduceAdd]; exact rfl) (by kernel_rfl) ⟨bst_is _, (bst_is _), bst_is _, bst_is _, (bst_is _), bst_is _, bst_is _, bst_is _, (fun _ _ _ hb ⟨z0, z1, z2, z3, h1, h2⟩ => ⟨z0, z1, z2, z3, h1, h2.mono (fun _ _ g => g.below hb)⟩), bst_is _, (fun _ _ _ hb ⟨z0, z1, z2, z3, h1, h2⟩ => ⟨z0, z1, z2, z3, h1, h2.mono (fun _ _ g => g.below hb)⟩), (bst_is _), bst_is _, bst_is _, trivial⟩ ?_ ?_; exact ⟨stG (fun u w3 hC hd => ⟨rfl, fun Q K hK => by (have z0 := (hC.cell (p := ⟨w.heap.size, 0, none⟩) hl1).trans q0; go_step; exact hK _ _ rfl (Below.refl _ _) rfl)⟩), stG (fun u w3 hC hd => ⟨rfl, fun Q K hK => by (have hu := bis (w := w3) (hd 0 rfl); rw [hu] at hK ⊢; clear hu; go_step; refine (implBV_b (HS2.out.below hC) (HT2.out.below hC) HRA.out).mono ?_; rintro e w4 ⟨rfl, hb4⟩; exact hK _ _ rfl hb4 rfl)⟩), stG (fun u w3 hC hd => ⟨rfl, fun Q K hK => by (have hu := bis (w := w3) (hd 1 rfl); rw [hu] at hK ⊢; clear hu; go_step; exact hK _ _ rfl (Below.refl _ _) rfl)⟩), stG (fun u w3 hC hd => ⟨by (have hu := bis (w := w3) (hd 2 rfl); rw [hu]; rfl), fun Q K hK => by (have z0 := (hC.cell (p := ⟨w.heap.size + 1, 0, none⟩) hl2).trans p0; go_step; exact hK _ _ rfl (Below.refl _ _) rfl)⟩), stG (fun u w3 hC hd => ⟨by (have hu := bis (w := w3) (hd 2 rfl); rw [hu]; rfl), fun Q K hK => by (have hu := bis (w := w3) (hd 3 rfl); rw [hu] at hK ⊢; clear hu; go_step; refine (implBV_b (HU2.out.below hC) (HT2.out.below hC) HRB.out).mono ?_; rintro e w4 ⟨rfl, hb4⟩; exact hK _ _ rfl hb4 rfl)⟩), stG (fun u w3 hC hd => ⟨rfl, fun Q K hK => by (have hu := bis (w := w3) (hd 2 rfl); rw [hu] at hK ⊢; clear hu; have hu := bis (w := w3) (hd 4 rfl); rw [hu] at hK ⊢; clear hu; go_step; exact hK _ _ rfl (Below.refl _ _) rfl)⟩), stG (fun u w3 hC hd => ⟨rfl, fun Q K hK => by (have hu := bis (w := w3) (hd 5 rfl); rw [hu] at hK ⊢; clear hu; go_step; exact hK _ _ rfl (Below.refl _ _) rfl)⟩), stG (fun u w3 hC hd => ⟨by (have hu := bis (w := w3) (hd 6 rfl); rw [hu]; rfl), fun Q K hK => by (have z0 := (hC.cell (p := ⟨w.heap.size, 0, none⟩) hl1).trans q0; go_step; exact hK _ _ rfl (Below.refl _ _) rfl)⟩), stG (fun u w3 hC hd => ⟨by (have hu := bis (w := w3) (hd 6 rfl); rw [hu]; rfl), fun Q K hK => by (have hu := bis (w := w3) (hd 7 rfl); rw [hu] at hK ⊢; clear hu; go_step; refine (sidesOf_any a _ _ _ (HS2.out.below hC) (Below.refl _ _) (bvalid_four HRA.out).1).mono ?_; rintro e w4 ⟨a0, n0, p0, a1, n1, p1, a2, n2, p2, a3, n3, p3, rfl, ha4, hb4⟩; exact hK _ _ rfl hb4 ⟨_, _, _, _, rfl, ha4.mono (fun _ _ g => (g.below hb4).mono (Nat.zero_le _))⟩)⟩), stG (fun u w3 hC hd => ⟨by (have hu := bis (w := w3) (hd 6 rfl); rw [hu]; rfl), fun Q K hK => by (have z0 := (hC.cell (p := ⟨w.heap.size + 1, 0, none⟩) hl2).trans p0; go_step; exact hK _ _ rfl (Below.refl _ _) rfl)⟩), stG (fun u w3 hC hd => ⟨by (have hu := bis (w := w3) (hd 6 rfl); rw [hu]; rfl), fun Q K hK => by (have hu := bis (w := w3) (hd 9 rfl); rw [hu] at hK ⊢; clear hu; go_step; refine (sidesOf_any b _ _ _ (HU2.out.below hC) (Below.refl _ _) (bvalid_four HRB.out).1).mono ?_; rintro e w4 ⟨a0, n0, p0, a1, n1, p1, a2, n2, p2, a3, n3, p3, rfl, ha4, hb4⟩; exact hK _ _ rfl hb4 ⟨_, _, _, _, rfl, ha4.mono (fun _ _ g => (g.below hb4).mono (Nat.zero_le _))⟩)⟩), stG (fun u w3 hC hd => ⟨by (have hu := bis (w := w3) (hd 6 rfl); rw [hu]; rfl), fun Q K hK => by (obtain ⟨x0, x1, x2, x3, hu, hx⟩ := hd 8 rfl; rw [hu] at hK ⊢; clear hu; obtain ⟨y0, y1, y2, y3, hu, hy⟩ := hd 10 rfl; rw [hu] at hK ⊢; clear hu; go_step; refine (within_b (HT2.out.below hC) hx hy HRA.out HRB.out HB.out).mono ?_; rintro e w4 ⟨rfl, hb4⟩; exact hK _ _ rfl hb4 rfl)⟩), stG (fun u w3 hC hd => ⟨rfl, fun Q K hK => by (have hu := bis (w := w3) (hd 6 rfl); rw [hu] at hK ⊢; clear hu; have hu := bis (w := w3) (hd 11 rfl); rw [hu] at hK ⊢; clear hu; go_step; exact hK _ _ rfl (Below.refl _ _) rfl)⟩), stG (fun u w3 hC hd => ⟨rfl, fun Q K hK => by (have hu := bis (w := w3) (hd 12 rfl); rw [hu] at hK ⊢; clear hu; go_step; exact hK _ _ rfl (Below.refl _ _) rfl)⟩), trivial⟩); intro u w9 hb_w9 hF; rw [bis (w := w9) (hF 0 (by decide))]; generalize u 1 = vx1 at *; rw [bis (w := w9) (hF 2 (by decide))]; rw [bis (w := w9) (hF 3 (by decide))]; generalize u 4 = vx4 at *; rw [bis (w := w9) (hF 5 (by decide))]; rw [bis (w := w9) (hF 6 (by decide))]; rw [bis (w := w9) (hF 7 (by decide))]; generalize u 8 = vx8 at *; rw [bis (w := w9) (hF 9 (by decide))]; generalize u 10 = vx10 at *; generalize u 11 = vx11 at *; rw [bis (w := w9) (hF 12 (by decide))]; rw [bis (w := w9) (hF 13 (by decide))]; clear hF
      go_wp2
      go_ret
      exact ⟨rfl, hal.trans (hb_w9.mono hal.size)⟩
theorem alloc3_cf (w : World) (A B C : Array Value) (t1 t2 t3 : Nat) :
    (∀ k, (((w.alloc (.cells A t1)).alloc (.cells B t2)).alloc (.cells C t3)).cell? ⟨w.heap.size, k, none⟩ = A[k]? ∧ (((w.alloc (.cells A t1)).alloc (.cells B t2)).alloc (.cells C t3)).frozen? ⟨w.heap.size, k, none⟩ = false) ∧ (∀ k, (((w.alloc (.cells A t1)).alloc (.cells B t2)).alloc (.cells C t3)).cell? ⟨w.heap.size + 1, k, none⟩ = B[k]? ∧ (((w.alloc (.cells A t1)).alloc (.cells B t2)).alloc (.cells C t3)).frozen? ⟨w.heap.size + 1, k, none⟩ = false) ∧
    (∀ k, (((w.alloc (.cells A t1)).alloc (.cells B t2)).alloc (.cells C t3)).cell? ⟨w.heap.size + 1 + 1, k, none⟩ = C[k]? ∧ (((w.alloc (.cells A t1)).alloc (.cells B t2)).alloc (.cells C t3)).frozen? ⟨w.heap.size + 1 + 1, k, none⟩ = false) := by
  refine ⟨fun k => ⟨?_, ?_⟩, fun k => ⟨?_, ?_⟩, fun k => ⟨?_, ?_⟩⟩ <;> go_simp
def regless (b : Bx) (xs : List Bx) : Option (List Bx) := if bvalid b && rvalid xs then blessB b xs else none
theorem regless_no {b : Bx} {xs : List Bx} (h : bvalid b = false ∨ rvalid xs = false) : regless b xs = none := by
  unfold regless
  rcases h with h | h
  · rw [h]; rfl
  · rw [h, Bool.and_false]; rfl
theorem regless_yes {b : Bx} {xs : List Bx} (hb : bvalid b = true) (hx : rvalid xs = true) : regless b xs = blessB b xs := by unfold regless; rw [hb, hx]; rfl
set_option maxHeartbeats 4000000 in
set_option maxRecDepth 100000 in
theorem implRL_e {lo lo' : Nat} {b : Bx} {xs : List Bx} {R : Option (List Bx)} {u v : Value} {w : World} (hs : Rws lo w u b) (hx : Bxs lo' w v xs) (ht : Tab w) (h : regless b xs = R) :
    Calls Tryd.prog 26 #[.agg #[u], v] w fun e w' => ∃ a c, e = .returned (.tuple #[.slice a (R.getD []).length c, .bool R.isSome]) ∧ Below w.heap.size w w' := by
  obtain ⟨ua, uc, rfl, -, -⟩ := hs.form
  obtain ⟨xa, xc, rfl, hlx, hmx⟩ := hx.form
  unfold maxLen at hmx
  obtain ⟨ra, hra⟩ : ∃ r, bvalid b = r := ⟨_, rfl⟩
  obtain ⟨rb, hrb⟩ : ∃ r, rvalid xs = r := ⟨_, rfl⟩
  have HRA := Lib.hid hra
  have HRB := Lib.hid hrb
  have HR := Lib.hid h
  obtain ⟨W, hW⟩ : ∃ W, w.alloc (.cells #[.slice ua b.length uc] 32) = W := ⟨_, rfl⟩
  have hal : Below w.heap.size w W := by rw [← hW]; (repeat' (first | with_reducible exact Below.refl _ _ | with_reducible assumption | with_reducible refine Below.setCell ?_ ?_ _ | with_reducible refine Below.alloc ?_ ?_ _ | with_reducible refine Below.drew ?_ | with_reducible refine belDrewN ?_ _ | with_reducible refine Below.trans ?_ (Below.mono (by assumption) ?_) | omega | (simp; omega) | (simp; done)))
  have qs : W.heap.size = w.heap.size + 1 := by rw [← hW]; simp
  have q0 : W.cell? ⟨w.heap.size, 0, none⟩ = some (.slice ua b.length uc) := by rw [← hW]; simp
  have HS := Lib.hid (hs.below hal)
  have HX := Lib.hid (hx.below hal)
  have HT := Lib.hid (ht.below hal)
  clear hs hx h ht
  obtain ⟨n, hn⟩ : ∃ n, xs.length = n := ⟨_, rfl⟩
  have HN := Lib.hid hn
  rw [hn] at HX hlx ⊢
  generalize b.length = lb at *
  go_enter Tryd.func26, Tryd.ntmps26
  go_wp2_with fail
  refine (implBV_b HS.out HT.out hra).mono ?_
  rintro e w1 ⟨rfl, hb1⟩
  have hw1 := hal.trans (hb1.mono hal.size)
  have hz1 := hb1.size
  have q1 := (hb1.cell (p := ⟨w.heap.size, 0, none⟩) (by simp only; omega)).trans q0
  clear q0 hra
  cases ra
  · have HM := Lib.hid (show R = none by rw [← HR.out]; exact regless_no (.inl HRA.out))
    go_wp2
    go_ret2
    exact ⟨none, 0, by rw [HM.out]; rfl, hw1⟩
  · go_wp2_with fail
    refine (implRV_b (HX.out.below hb1) (HT.out.below hb1) hrb).mono ?_
    rintro e w2 ⟨rfl, hb2⟩
    have hB2 := hb1.trans (hb2.mono hz1)
    have hz2 := hB2.size
    have hw2 := hal.trans (hB2.mono hal.size)
    have q2 := (hb2.cell (p := ⟨w.heap.size, 0, none⟩) (by simp only; omega)).trans q1
    clear q1 hrb hb1 hb2 hw1
    cases rb
    · have HM := Lib.hid (show R = none by rw [← HR.out]; exact regless_no (.inr HRB.out))
      go_wp2
      go_ret2
      exact ⟨none, 0, by rw [HM.out]; rfl, hw2⟩
    · have HBL := Lib.hid (show blessB b xs = R by rw [← HR.out]; exact (regless_yes HRA.out HRB.out).symm)
      have HRV := Lib.hid (rvalid_all HRB.out)
      have hn4 : n ≤ 400 := by rw [← hn]; exact HRV.out.1
      have HVX := Lib.hid (fun (k : Nat) (x : Bx) (hk : xs[k]? = some x) => HRV.out.2 x (List.mem_of_getElem? hk))
      clear hn
      obtain ⟨i0, hi, hy0, hy1, hy2⟩ := info_parts infoSd
      go_wp2_with (at_make; refine wpList_make_own _ rfl _ _ 73 rfl w2.heap.size 89 i0 _ 4 Tryd.underlying73 hi hy0 hy1 _ _ _ n rfl rfl rfl ?b1 ?b2 ?b3 ?_)
      case b1 => rw [hy2]; omega
      case b2 => simp only [maxLen]; omega
      case b3 => omega
      intro w3 hown3 hgrow3
      have hb3 : Below w2.heap.size w2 w3 := (Below.refl _ _).grown hgrow3 (Nat.le_refl _) (fun k hk => by cases hk)
      have HO3 := Lib.hid (show OwnSl w2.heap.size 89 4 R4.enc w3 (.slice (some ⟨w2.heap.size, 0, none⟩) 0 n) ([] : List R4) by simpa [OwnSl] using hown3)
      clear hown3 hgrow3
      go_wp2_with fail
      go_loopw [6, 8, 24] (fun o _ i wr => ∃ (k : Nat) (rs : List R4), k ≤ n ∧ i = .int .i64 k ∧ Hid (OwnSl w2.heap.size 89 4 R4.enc wr o rs) ∧ Hid (All2 (R4.ok 0 w2) rs (xs.take k)) ∧ Below w2.heap.size w2 wr) (fun _ _ i _ => n - (intOf i).toNat)
      case atStart => exact ⟨0, [], by omega, rfl, HO3, Lib.hid (by simpa using All2.nil), hb3⟩
      case round =>
        obtain ⟨k, rs, hk, rfl, HO, HA, hbr⟩ := hrel
        clear HO3 hb3
        have hzr := hbr.size
        have hwr := hw2.trans (hbr.mono hw2.size)
        have HTR := Lib.hid (HT.out.below (hB2.trans (hbr.mono hz2)))
        have qr := (hbr.cell (p := ⟨w.heap.size, 0, none⟩) (by simp only; omega)).trans q2
        have hrl : rs.length ≤ 400 := by have := HA.out.1; rw [List.length_take] at this; omega
        have hof := OwnSl.form HO.out
        obtain ⟨oa, oc, rfl⟩ : ∃ a c, u6 = .slice a rs.length c := by
          rcases hof with ⟨h, h'⟩ | ⟨g, c, h, _⟩
          · exact ⟨_, _, by rw [h', h]; rfl⟩
          · exact ⟨_, _, h⟩
        clear hof
        by_cases hlt : k < n
        · have i1 : (k : Int) < (n : Int) := by omega
          have i2 : (0 : Int) ≤ (k : Int) := by omega
          obtain ⟨f, hx⟩ : ∃ f, xs[k]? = some f := ⟨_, List.getElem?_eq_getElem (by rw [HN.out]; exact hlt)⟩
          obtain ⟨bb, o, sv, rfl, hbl, c0, hsv⟩ := HX.out.at hx
          have HFV := Lib.hid (HVX.out k f hx)
          have HXX := Lib.hid hx
          replace c0 := (hB2.cell (p := ⟨bb, o + k, none⟩) hbl).trans c0
          have HSV := Lib.hid (hsv.below hB2)
          replace c0 := (hbr.cell (p := ⟨bb, o + k, none⟩) (Nat.lt_of_lt_of_le hbl hz2)).trans c0
          replace hbl := Nat.lt_of_lt_of_le (Nat.lt_of_lt_of_le hbl hz2) hzr
          obtain ⟨sa, sc, rfl, -, -⟩ := hsv.form
          have hal4 : Below wr.heap.size wr (wr.alloc (.cells #[.slice sa f.length sc] 32)) := (Below.refl _ _).alloc (Nat.le_refl _) _
          clear hx hsv
          go_wp2_with fail
          refine (sidesOf_any f _ w2 _ HSV.out (hbr.trans (hal4.mono hzr)) (bvalid_four HFV.out).1).mono ?_
          rintro e w4 ⟨a0, n0, p0, a1, n1, p1, a2, n2, p2, a3, n3, p3, rfl, ha4, hb4⟩
          have hbr4 : Below wr.heap.size wr w4 := hal4.trans (hb4.mono hal4.size)
          obtain ⟨W5, hW5⟩ : ∃ W5, w4.alloc (.cells #[.slice a0 n0 p0, .slice a1 n1 p1, .slice a2 n2 p2, .slice a3 n3 p3] 89) = W5 := ⟨_, rfl⟩
          have hal5 : Below w4.heap.size w4 W5 := by rw [← hW5]; exact (Below.refl _ _).alloc (Nat.le_refl _) _
          have hlit : SlAt 4 R4.enc W5 (.slice (some ⟨w4.heap.size, 0, none⟩) 1 1) [(⟨.slice a0 n0 p0, .slice a1 n1 p1, .slice a2 n2 p2, .slice a3 n3 p3⟩ : R4)] := by rw [← hW5]; exact lit4_at w4 _ _ _ _ _
          obtain ⟨v', w', hrun, hown, hgr, hat⟩ := own_append_all (sz := 4) (enc := R4.enc) (by omega) (fun _ => rfl) (P := Tryd.prog) (w := W5) 73 73 89 i0 _ 96 Tryd.underlying73 hi hy0 hy1 hy2 rfl (zs := [⟨.slice a0 n0 p0, .slice a1 n1 p1, .slice a2 n2 p2, .slice a3 n3 p3⟩]) (by simp [Value.oneCell']) (OwnSl.kept HO.out (hbr4.trans (hal5.mono hbr4.size))) hlit (by simp; omega) (by simp only [maxLen, List.length_singleton]; omega) (Nat.le_trans hzr (Nat.le_trans hbr4.size hal5.size))
          have hwx : Below w2.heap.size w2 w' := ((hbr.trans (hbr4.mono hzr)).trans (hal5.mono (Nat.le_trans hzr hbr4.size))).grown hgr (Nat.le_trans hzr (Nat.le_trans hbr4.size hal5.size)) (fun z hz => (World.ownsRow.lt HO.out z hz).1)
          have HO6 := Lib.hid hown
          have HA6 := Lib.hid (show All2 (R4.ok 0 w2) (rs ++ [⟨.slice a0 n0 p0, .slice a1 n1 p1, .slice a2 n2 p2, .slice a3 n3 p3⟩]) (xs.take (k + 1)) by
            rw [List.take_add_one, HXX.out]
            exact All2.snoc HA.out (All2.mono ha4 (fun _ _ g => g.mono (Nat.zero_le _))))
          clear hown hgr hat hlit ha4
          go_wp2_with (at_builtin; refine wpList_append_run rfl _ _ 73 rfl rfl rfl hrun ?_)
          go_wp2
          go_roundw
          case rel => exact ⟨k + 1, _, by omega, by go_num, HO6, HA6, hwx⟩
          case measure => simp [intOf]; omega
        · have hkn : k = n := by omega
          subst hkn
          have HAA := Lib.hid (show All2 (R4.ok 0 w2) rs xs by have := HA.out; rwa [List.take_of_length_le (by rw [HN.out]; omega)] at this)
          have HI := Lib.hid (show Iss 0 wr (.slice oa rs.length oc) xs from ⟨rs, SlFr.mono (OwnSl.fr (sz := 4) (enc := R4.enc) (fun _ => rfl) HO.out) (Nat.zero_le _), HAA.out.mono (fun _ _ g => (All2.mono g (fun _ _ q => q.below hbr) : All2 _ _ _))⟩)
          have HSR := Lib.hid (HS.out.below (hB2.trans (hbr.mono hz2)))
          clear HA HO HAA
          go_wp2_with fail
          refine (sidesOf_any b _ wr wr HSR.out (Below.refl _ _) (bvalid_four HRA.out).1).mono ?_
          rintro e w4 ⟨a0, n0, p0, a1, n1, p1, a2, n2, p2, a3, n3, p3, rfl, ha4, hb4⟩
          have hw4 := hwr.trans (hb4.mono hwr.size)
          have HA4 := Lib.hid ha4
          clear ha4
          go_wp2_with fail
          refine (less_any b xs _ _ _ _ _ w4 (HTR.out.below hb4) (HA4.out.mono (fun _ _ g => g.below hb4)) (HI.out.below hb4) HRA.out HVX.out).mono ?_
          rintro e w5 ⟨z5, rfl, h5, hb5⟩
          have hw5 := hw4.trans (hb5.mono hw4.size)
          rw [HBL.out] at h5 ⊢
          cases R with
          | none =>
            go_wp2
            go_ret2
            exact ⟨none, 0, rfl, hw5⟩
          | some ys =>
            have HY := Lib.hid (h5 ys rfl)
            obtain ⟨ya, yc, rfl, -, -⟩ := HY.out.form
            have HYV := Lib.hid (rvalid_all (blessB_valid HRA.out HBL.out))
            clear h5
            go_wp2_with fail
            refine (boxesOf_any ys _ _ HY.out (by have := HYV.out.1; omega) (fun k z hz j l hl => by have := bvalid_lens (HYV.out.2 z (List.mem_of_getElem? hz)) j l hl; omega)).mono ?_
            rintro e w6 ⟨v6, rfl, ho6, hb6⟩
            obtain ⟨za, zc, rfl, -, -⟩ := ho6.bxs.form
            clear ho6
            go_wp2
            go_ret2
            exact ⟨_, _, rfl, hw5.trans (hb6.mono hw5.size)⟩
theorem l10Meet_w {lo lo' : Nat} {a b c : Bx} {u v : Value} {w : World} (h : bmeet a b = c) (hs : Rws lo w u a) (ht : Rws lo' w v b) (ha : bvalid a = true) (hb : bvalid b = true) :
    Calls Tryd.prog 46 #[.agg #[u], .agg #[v]] w fun e w' => ∃ v', e = .returned (.agg #[v']) ∧ Rws w.heap.size w' v' c ∧ Below w.heap.size w w' := by
  subst h
  refine (l10Meet_any a b u v w hs ht (bvalid_four ha).1 (bvalid_four hb).1 (bvalid_len2 ha) (bvalid_len2 hb)).mono ?_
  rintro e w' ⟨v', rfl, h1, h2⟩
  exact ⟨v', rfl, GRw.rws h1, h2⟩
set_option maxHeartbeats 4000000 in
set_option maxRecDepth 100000 in
theorem specBMt_e {lo lo' : Nat} {a b : Bx} {R : Option Bx} {u v : Value} {w : World} (hs : Rws lo w u a) (hu : Rws lo' w v b) (hla : a.length ≤ 1000) (hlb : b.length ≤ 1000) (hea : ∀ (k : Nat) xs, a[k]? = some xs → xs.length ≤ 1000) (heb : ∀ (k : Nat) xs, b[k]? = some xs → xs.length ≤ 1000) (h : meetV a b = R) :
    Calls Tryd.prog 90 #[.agg #[u], .agg #[v]] w fun e w' => ∃ z, e = .returned (.agg #[z]) ∧ Rws w.heap.size w' z (R.getD []) ∧ Below w.heap.size w w' := by
  obtain ⟨ua, uc, rfl, -, -⟩ := hs.form
  obtain ⟨va, vc, rfl, -, -⟩ := hu.form
  obtain ⟨ra, hra⟩ : ∃ r, bvalid a = r := ⟨_, rfl⟩
  obtain ⟨rb, hrb⟩ : ∃ r, bvalid b = r := ⟨_, rfl⟩
  have HRA := Lib.hid hra
  have HRB := Lib.hid hrb
  have HS := Lib.hid hs
  have HU := Lib.hid hu
  have HR := Lib.hid h
  have HEA := Lib.hid (fun (k : Nat) (xs : List Sp) (hx : a[k]? = some xs) => (show xs.length ≤ 1048576 by have := hea k xs hx; omega))
  have HEB := Lib.hid (fun (k : Nat) (xs : List Sp) (hx : b[k]? = some xs) => (show xs.length ≤ 1048576 by have := heb k xs hx; omega))
  have hNA : a.length ≤ 1048576 := by omega
  have hNB : b.length ≤ 1048576 := by omega
  clear hs hu h hea heb
  obtain ⟨W, hW⟩ : ∃ W, ((w.alloc (.cells #[.slice ua a.length uc] 32)).alloc (.cells #[.slice va b.length vc] 32)).alloc (.cells #[.slice none 0 0] 32) = W := ⟨_, rfl⟩
  have hal : Below w.heap.size w W := by rw [← hW]; (repeat' (first | with_reducible exact Below.refl _ _ | with_reducible assumption | with_reducible refine Below.setCell ?_ ?_ _ | with_reducible refine Below.alloc ?_ ?_ _ | with_reducible refine Below.drew ?_ | with_reducible refine belDrewN ?_ _ | with_reducible refine Below.trans ?_ (Below.mono (by assumption) ?_) | omega | (simp; omega) | (simp; done)))
  have HA3 := alloc3_cf w #[.slice ua a.length uc] #[.slice va b.length vc] #[.slice none 0 0] 32 32 32
  have qs : W.heap.size = w.heap.size + 1 + 1 + 1 := by rw [← hW]; simp
  rw [hW] at HA3
  have q0 : W.cell? ⟨w.heap.size, 0, none⟩ = some (.slice ua a.length uc) := by rw [(HA3.1 0).1]; rfl
  have m0 : W.frozen? ⟨w.heap.size, 0, none⟩ = false := (HA3.1 0).2
  have p0 : W.cell? ⟨w.heap.size + 1, 0, none⟩ = some (.slice va b.length vc) := by rw [(HA3.2.1 0).1]; rfl
  have o0 : W.frozen? ⟨w.heap.size + 1, 0, none⟩ = false := (HA3.2.1 0).2
  have r0 : W.cell? ⟨w.heap.size + 1 + 1, 0, none⟩ = some (.slice none 0 0) := by rw [(HA3.2.2 0).1]; rfl
  have n0 : W.frozen? ⟨w.heap.size + 1 + 1, 0, none⟩ = false := (HA3.2.2 0).2
  clear HA3
  go_enter Tryd.func90, Tryd.ntmps90
  go_wp2_with fail
  refine (ownBox_any a _ _ (HS.out.below hal) hNA HEA.out).mono ?_
  rintro e w1 ⟨v1, rfl, ho1, hb1⟩
  have hz1 := hb1.size
  have HA := Lib.hid ho1.rws
  obtain ⟨xa, xc, rfl, -, -⟩ := HA.out.form
  replace m0 := (hb1.frozen (p := ⟨w.heap.size, 0, none⟩) (by simp only; omega)).trans m0
  replace q0 := (hb1.cell (p := ⟨w.heap.size, 0, none⟩) (by simp only; omega)).trans q0
  obtain ⟨V1, hV1⟩ : ∃ V1, w1.setCell ⟨w.heap.size, 0, none⟩ (.slice xa a.length xc) = V1 := ⟨_, rfl⟩
  have hk1 : ∀ k, w.heap.size < k → V1.heap[k]? = w1.heap[k]? := fun k h => by rw [← hV1]; exact Below.heap_setCell _ _ _ _ (by simp only; omega)
  have y1 : V1.heap.size = w1.heap.size := by rw [← hV1]; simp
  have hB1 : Below w.heap.size w V1 := by rw [← hV1]; exact (hal.trans (hb1.mono hal.size)).setCell (by simp) _
  have HA1 := Lib.hid (show Rws W.heap.size V1 (.slice xa a.length xc) a from HA.out.keep ⟨by omega, fun k h1 h2 => hk1 k (by omega)⟩)
  have g0 : V1.cell? ⟨w.heap.size, 0, none⟩ = some (.slice xa a.length xc) := by rw [← hV1]; exact World.cell?_setCell_same' _ _ _ (by rw [q0]; rfl)
  have g1 : V1.cell? ⟨w.heap.size + 1, 0, none⟩ = some (.slice va b.length vc) := (World.cell?_of_block (a := ⟨w.heap.size + 1, 0, none⟩) (hk1 _ (by simp only; omega))).trans ((hb1.cell (p := ⟨w.heap.size + 1, 0, none⟩) (by simp only; omega)).trans p0)
  have g2 : V1.cell? ⟨w.heap.size + 1 + 1, 0, none⟩ = some (.slice none 0 0) := (World.cell?_of_block (a := ⟨w.heap.size + 1 + 1, 0, none⟩) (hk1 _ (by simp only; omega))).trans ((hb1.cell (p := ⟨w.heap.size + 1 + 1, 0, none⟩) (by simp only; omega)).trans r0)
  have f1 : V1.frozen? ⟨w.heap.size + 1, 0, none⟩ = false := (World.frozen?_of_block (a := ⟨w.heap.size + 1, 0, none⟩) (hk1 _ (by simp only; omega))).trans ((hb1.frozen (p := ⟨w.heap.size + 1, 0, none⟩) (by simp only; omega)).trans o0)
  have f2 : V1.frozen? ⟨w.heap.size + 1 + 1, 0, none⟩ = false := (World.frozen?_of_block (a := ⟨w.heap.size + 1 + 1, 0, none⟩) (hk1 _ (by simp only; omega))).trans ((hb1.frozen (p := ⟨w.heap.size + 1 + 1, 0, none⟩) (by simp only; omega)).trans n0)
  clear HA ho1 p0 r0 n0 o0 hb1
  go_wp2_with fail
  refine (ownBox_any b _ _ (HU.out.below hB1) hNB HEB.out).mono ?_
  rintro e w2 ⟨v2, rfl, ho2, hb2⟩
  have hz2 := hb2.size
  have HB := Lib.hid ho2.rws
  obtain ⟨xb, xd, rfl, -, -⟩ := HB.out.form
  replace f1 := (hb2.frozen (p := ⟨w.heap.size + 1, 0, none⟩) (by simp only; omega)).trans f1
  replace g1 := (hb2.cell (p := ⟨w.heap.size + 1, 0, none⟩) (by simp only; omega)).trans g1
  obtain ⟨V2, hV2⟩ : ∃ V2, w2.setCell ⟨w.heap.size + 1, 0, none⟩ (.slice xb b.length xd) = V2 := ⟨_, rfl⟩
  have hk2 : ∀ k, k ≠ w.heap.size + 1 → V2.heap[k]? = w2.heap[k]? := fun k h => by rw [← hV2]; exact Below.heap_setCell _ _ _ _ (by simpa using h)
  have y2 : V2.heap.size = w2.heap.size := by rw [← hV2]; simp
  have hB2 : Below w.heap.size w V2 := by rw [← hV2]; exact (hB1.trans (hb2.mono hB1.size)).setCell (by simp only; omega) _
  have HA2 := Lib.hid (show Rws W.heap.size V2 (.slice xa a.length xc) a from (HA1.out.below hb2).keep ⟨by omega, fun k h1 h2 => hk2 k (by omega)⟩)
  have HB2 := Lib.hid (show Rws V1.heap.size V2 (.slice xb b.length xd) b from HB.out.keep ⟨by omega, fun k h1 h2 => hk2 k (by omega)⟩)
  have e0 : V2.cell? ⟨w.heap.size, 0, none⟩ = some (.slice xa a.length xc) := (World.cell?_of_block (a := ⟨w.heap.size, 0, none⟩) (hk2 _ (by simp only; omega))).trans ((hb2.cell (p := ⟨w.heap.size, 0, none⟩) (by simp only; omega)).trans g0)
  have e1 : V2.cell? ⟨w.heap.size + 1, 0, none⟩ = some (.slice xb b.length xd) := by rw [← hV2]; exact World.cell?_setCell_same' _ _ _ (by rw [g1]; rfl)
  have e2 : V2.cell? ⟨w.heap.size + 1 + 1, 0, none⟩ = some (.slice none 0 0) := (World.cell?_of_block (a := ⟨w.heap.size + 1 + 1, 0, none⟩) (hk2 _ (by simp only; omega))).trans ((hb2.cell (p := ⟨w.heap.size + 1 + 1, 0, none⟩) (by simp only; omega)).trans g2)
  have d2 : V2.frozen? ⟨w.heap.size + 1 + 1, 0, none⟩ = false := (World.frozen?_of_block (a := ⟨w.heap.size + 1 + 1, 0, none⟩) (hk2 _ (by simp only; omega))).trans ((hb2.frozen (p := ⟨w.heap.size + 1 + 1, 0, none⟩) (by simp only; omega)).trans f2)
  clear HA1 HB ho2 g0 g2 f2 hb2 HS HU HEA HEB
  have hsv : w.heap.size + 1 + 1 < V2.heap.size := by omega
  have HLA := Lib.hid hla
  generalize a.length = la at *
  generalize b.length = lb at *
  go_wp2_with fail
  refine (specBV_b HA2.out hra).mono ?_
  rintro e w3 ⟨rfl, hb3⟩
  have hB3 := hB2.trans (hb3.mono hB2.size)
  have k1 := (hb3.cell (p := ⟨w.heap.size + 1, 0, none⟩) (by simp only; omega)).trans e1
  have k2 := (hb3.cell (p := ⟨w.heap.size + 1 + 1, 0, none⟩) hsv).trans e2
  have t2 := (hb3.frozen (p := ⟨w.heap.size + 1 + 1, 0, none⟩) hsv).trans d2
  have hz3 := hb3.size
  clear hra
  cases ra
  · have HM := Lib.hid (show R = none by rw [← HR.out]; exact meetV_no (.inl HRA.out))
    have hwW : Below w.heap.size w (w3.setCell ⟨w.heap.size + 1 + 1, 0, none⟩ (.slice none 0 0)) := hB3.setCell (by simp only; omega) _
    go_wp2
    refine bodyPost_ret (v := .agg #[.slice none 0 0]) ?_ rfl ⟨_, rfl, ?_, hwW⟩
    · simp [results, Tryd.results90, go_sem, k2]
    · rw [HM.out]; exact (GRw.nil _ hwW.size).rws
  · go_wp2_with fail
    refine (specBV_b (HB2.out.below hb3) hrb).mono ?_
    rintro e w4 ⟨rfl, hb4⟩
    have hB4 := hb3.trans (hb4.mono hz3)
    have hz4 := hB4.size
    have hw4 := hB2.trans (hB4.mono hB2.size)
    have i0 := (hB4.cell (p := ⟨w.heap.size, 0, none⟩) (by simp only; omega)).trans e0
    have i1 := (hB4.cell (p := ⟨w.heap.size + 1, 0, none⟩) (by simp only; omega)).trans e1
    have i2 := (hB4.cell (p := ⟨w.heap.size + 1 + 1, 0, none⟩) hsv).trans e2
    have j2 := (hB4.frozen (p := ⟨w.heap.size + 1 + 1, 0, none⟩) hsv).trans d2
    clear k1 k2 t2 hb3 hb4 hrb
    cases rb
    · have HM := Lib.hid (show R = none by rw [← HR.out]; exact meetV_no (.inr HRB.out))
      have hwW : Below w.heap.size w (w4.setCell ⟨w.heap.size + 1 + 1, 0, none⟩ (.slice none 0 0)) := hw4.setCell (by simp only; omega) _
      clear i0 i1
      go_wp2
      refine bodyPost_ret (v := .agg #[.slice none 0 0]) ?_ rfl ⟨_, rfl, ?_, hwW⟩
      · simp [results, Tryd.results90, go_sem, i2]
      · rw [HM.out]; exact (GRw.nil _ hwW.size).rws
    · go_wp2_with fail
      refine (l10Meet_w rfl (HA2.out.below hB4) (HB2.out.below hB4) HRA.out HRB.out).mono ?_
      rintro e w5 ⟨v5, rfl, ho5, hb5⟩
      have HM5 := Lib.hid ho5
      clear ho5
      obtain ⟨ma, mc, rfl, -, -⟩ := HM5.out.form
      obtain ⟨rm, hrm⟩ : ∃ r, bvalid (bmeet a b) = r := ⟨_, rfl⟩
      have HRM := Lib.hid hrm
      go_wp2_with fail
      refine (specBV_b HM5.out hrm).mono ?_
      rintro e w6 ⟨rfl, hb6⟩
      have hB6 := (hB4.trans (hb5.mono hz4)).trans (hb6.mono (Nat.le_trans hz4 hb5.size))
      have hz6 := hB6.size
      have hw6 := hB2.trans (hB6.mono hB2.size)
      have c0 := (hB6.cell (p := ⟨w.heap.size, 0, none⟩) (by simp only; omega)).trans e0
      have c1 := (hB6.cell (p := ⟨w.heap.size + 1, 0, none⟩) (by simp only; omega)).trans e1
      have c2 := (hB6.cell (p := ⟨w.heap.size + 1 + 1, 0, none⟩) hsv).trans e2
      have l2 := (hB6.frozen (p := ⟨w.heap.size + 1 + 1, 0, none⟩) hsv).trans d2
      clear i0 i1 i2 j2 hb5 hb6 hrm HM5
      cases rm
      · have HM := Lib.hid (show R = none by rw [← HR.out, meetV_yes HRA.out HRB.out]; unfold meetB; rw [HRM.out]; rfl)
        have hwW : Below w.heap.size w (w6.setCell ⟨w.heap.size + 1 + 1, 0, none⟩ (.slice none 0 0)) := hw6.setCell (by simp only; omega) _
        clear c0 c1
        go_wp2
        refine bodyPost_ret (v := .agg #[.slice none 0 0]) ?_ rfl ⟨_, rfl, ?_, hwW⟩
        · simp [results, Tryd.results90, go_sem, c2]
        · rw [HM.out]; exact (GRw.nil _ hwW.size).rws
      · have HM := Lib.hid (show R = some (bmeet a b) by rw [← HR.out, meetV_yes HRA.out HRB.out]; unfold meetB; rw [HRM.out]; rfl)
        go_wp2_with fail
        refine (l10Meet_w rfl (HA2.out.below hB6) (HB2.out.below hB6) HRA.out HRB.out).mono ?_
        rintro e w7 ⟨v7, rfl, ho7, hb7⟩
        have HM7 := Lib.hid ho7
        clear ho7
        obtain ⟨na, nc, rfl, -, -⟩ := HM7.out.form
        have c3 := (hb7.cell (p := ⟨w.heap.size + 1 + 1, 0, none⟩) (by simp only; omega)).trans c2
        have l3 := (hb7.frozen (p := ⟨w.heap.size + 1 + 1, 0, none⟩) (by simp only; omega)).trans l2
        have hw7 := hw6.trans (hb7.mono hw6.size)
        have hz7 := hb7.size
        have hwW : Below w.heap.size w (w7.setCell ⟨w.heap.size + 1 + 1, 0, none⟩ (.slice na (bmeet a b).length nc)) := hw7.setCell (by simp only; omega) _
        clear c0 c1 c2 l2
        go_wp2
        refine bodyPost_ret (v := .agg #[.slice na (bmeet a b).length nc]) ?_ rfl ⟨_, rfl, ?_, hwW⟩
        · simp [results, Tryd.results90, go_sem, c3]
        · rw [HM.out]
          exact ((HM7.out.keep ⟨by simp, fun k h1 h2 => Below.heap_setCell _ _ _ _ (by simp only; omega)⟩).mono (by omega))
end Go.Proofs.YtajcogpfmpehkaaDoor
