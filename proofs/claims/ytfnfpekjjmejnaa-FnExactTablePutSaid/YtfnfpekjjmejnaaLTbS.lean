/- The exact laws on TableFind and TableShrink: the walks. -/
import Derived.Test.YtfnfpekjjmejnaaLTbX
import Derived.Test.YtfnfpekjjmejnaaTbSi
namespace Go.Proofs.Ytfnfpekjjmejnaa
open Go.RowKit
theorem OwnEn.lt {base : Nat} {w : World} {v : Value} {ys : List En} (h : OwnEn base w v ys) : ∀ k, v.ownBlock = some k → base ≤ k ∧ k < w.heap.size := World.ownsRow.lt h
theorem OwnEn.below {base : Nat} {w w' : World} {v : Value} {ys : List En} (h : OwnEn base w v ys) (hb : Below w.heap.size w w') : OwnEn base w' v ys := OwnSl.kept h hb
theorem OwnEn.apart {base : Nat} {w w' : World} {v u : Value} {ys : List En} (h : OwnEn base w v ys) (hg : w.grownBy w' u.ownBlock) (hne : ∀ k j, v.ownBlock = some k → u.ownBlock = some j → k ≠ j) : OwnEn base w' v ys :=
  OwnSl.apart h hg (fun k hk e => hne k k hk e rfl)
theorem OwnEn.belMark {base : Nat} {W w w' : World} {v : Value} {ys : List En} (h : OwnEn base w v ys) (hb : Below W.heap.size W w) (hg : w.grownBy w' v.ownBlock) (hB : W.heap.size ≤ base) : Below W.heap.size W w' :=
  hb.grown hg hb.size (fun k hk => Nat.le_trans hB (h.lt k hk).1)
set_option maxHeartbeats 1000000 in
theorem law_FnExactTableShrink (xs : List En) (v : Value) (w : World) (hs : Ens w v xs) :
    Calls Try.prog 7 #[v] w fun e w' => e = .returned (.bool true) ∧ Below w.heap.size w w' := by
  obtain ⟨a, cap, rfl, hlc, hcm, -⟩ := id hs
  have hcm' := hcm; unfold maxLen at hcm'
  by_cases hn : xs.length ≤ 1048576
  · obtain ⟨ys, hys⟩ : ∃ ys, tshrink xs = ys := ⟨_, rfl⟩
    have hyl : ys.length ≤ 1048576 := by
      rw [← hys]; unfold tshrink
      split
      · exact Nat.le_trans (shr_len _ _) hn
      · simp
    go_enter Try.func7, Try.ntmps7
    go_wp2_with fail
    refine (szEntryS_any a xs.length cap 1048576 (by omega) (by omega) (by omega) w).mono ?_
    rw [lenOk _ hn]
    rintro e _ ⟨rfl, rfl⟩
    go_wp2_with fail
    refine (toEntryS_any xs _ _ hs hn).mono ?_
    rintro e w1 ⟨v1, rfl, ho1, hb1⟩
    have hw1 := hb1
    go_wp2_with fail
    refine (specTS_any xs _ _ ho1.ens).mono ?_
    rw [hys]
    rintro e w2 ⟨v2, rfl, ho2, hb2⟩
    have hw2 := hw1.trans (hb2.mono hw1.size)
    go_wp2_with fail
    refine (toEntryS_any xs _ _ (hs.below hw2) hn).mono ?_
    rintro e w3 ⟨v3, rfl, ho3, hb3⟩
    have hw3 := hw2.trans (hb3.mono hw2.size)
    go_wp2_with fail
    refine (implTS_any xs _ _ ho3.ens).mono ?_
    rw [hys]
    rintro e w4 ⟨v4, rfl, ho4, hb4⟩
    have hw4 := hw3.trans (hb4.mono hw3.size)
    have ho2' := ho2.below (hb3.trans (hb4.mono hb3.size))
    go_wp2_with fail
    refine (eqEntryS_b ho4.ens ho2'.ens (decide_eq_true rfl)).mono ?_
    rintro e w5 ⟨rfl, hb5⟩
    have hw5 := hw4.trans (hb5.mono hw4.size)
    go_wp2_with fail
    refine (toEntryS_any xs _ _ (hs.below hw5) hn).mono ?_
    rintro e w6 ⟨v6, rfl, ho6, hb6⟩
    have hw6 := hw5.trans (hb6.mono hw5.size)
    have h36 : Below w3.heap.size w3 w6 := (hb4.trans (hb5.mono hb4.size)).trans (hb6.mono (Nat.le_trans hb4.size hb5.size))
    have ho3' := ho3.below h36
    go_wp2_with fail
    refine (eqEntryS_b ho3'.ens ho6.ens (decide_eq_true rfl)).mono ?_
    rintro e w7 ⟨rfl, hb7⟩
    have hw7 := hw6.trans (hb7.mono hw6.size)
    have ho3'' := ho3'.below hb7
    have h57 : Below w5.heap.size w5 w7 := hb6.trans (hb7.mono hb6.size)
    have h47 : Below w4.heap.size w4 w7 := hb5.trans (h57.mono hb5.size)
    have ho2'' := ho2'.below h47
    have ho4'' := ho4.below h47
    have l2 := ho2.lt; have l3 := ho3.lt; have l4 := ho4.lt
    have L := Lib.hid (show True ∧ (∀ k j, v2.ownBlock = some k → v3.ownBlock = some j → k ≠ j) ∧ (∀ k j, v4.ownBlock = some k → v3.ownBlock = some j → k ≠ j) ∧ (∀ k j, v2.ownBlock = some k → v4.ownBlock = some j → k ≠ j) from
      ⟨trivial, fun k j hk hj => by have := l2 k hk; have := l3 j hj; omega, fun k j hk hj => by have := l4 k hk; have := l3 j hj; omega, fun k j hk hj => by have := l2 k hk; have := l4 j hj; have := hb3.size; omega⟩)
    clear l2 l3 l4
    go_wp2_with fail
    refine (markEntryS_any _ xs v3 1 w7 ho3'' hn (by omega)).mono ?_
    rintro e w8 ⟨rfl, ho3m, hg8⟩
    have hw8 := ho3''.belMark hw7 hg8 hw2.size
    have ho2m := ho2''.apart hg8 L.out.2.1
    have ho4m := ho4''.apart hg8 L.out.2.2.1
    have HG8 := Lib.hid hg8; clear hg8
    go_wp2_with fail
    refine (eqEntryS_b ho4m.ens ho2m.ens (decide_eq_true rfl)).mono ?_
    rintro e w9 ⟨rfl, hb9⟩
    have hw9 := hw8.trans (hb9.mono hw8.size)
    go_wp2_with fail
    refine (markEntryS_any _ ys v4 1 w9 (ho4m.below hb9) hyl (by omega)).mono ?_
    rintro e w10 ⟨rfl, ho4k, hg10⟩
    have hw10 := (ho4m.below hb9).belMark hw9 hg10 hw3.size
    have ho2k := (ho2m.below hb9).apart hg10 L.out.2.2.2
    have HG10 := Lib.hid hg10; clear hg10
    go_wp2_with fail
    refine (heldEntryS_any ys.length v4 1 w10 ho4k.ens hyl (by omega)).mono ?_
    rintro e _ ⟨rfl, rfl⟩
    go_wp2_with fail
    refine (toEntryS_any xs _ _ (hs.below hw10) hn).mono ?_
    rintro e w11 ⟨v11, rfl, ho11, hb11⟩
    have hw11 := hw10.trans (hb11.mono hw10.size)
    go_wp2_with fail
    refine (implTS_any xs _ _ ho11.ens).mono ?_
    rw [hys]
    rintro e w12 ⟨v12, rfl, ho12, hb12⟩
    have hw12 := hw11.trans (hb12.mono hw11.size)
    have h1012 : Below w10.heap.size w10 w12 := hb11.trans (hb12.mono hb11.size)
    go_wp2_with fail
    refine (eqEntryS_b ho12.ens (ho2k.below h1012).ens (decide_eq_true rfl)).mono ?_
    rintro e w13 ⟨rfl, hb13⟩
    have hw13 := hw12.trans (hb13.mono hw12.size)
    go_wp2_with fail
    refine (heldEntryS_any ys.length v4 1 w13 ((ho4k.below h1012).below hb13).ens hyl (by omega)).mono ?_
    rintro e _ ⟨rfl, rfl⟩
    go_wp2
    go_ret
    exact ⟨rfl, hw13⟩
  · go_enter Try.func7, Try.ntmps7
    go_wp2_with fail
    refine (szEntryS_any a xs.length cap 1048576 (by omega) (by omega) (by omega) w).mono ?_
    rw [lenBig _ hn]
    rintro e _ ⟨rfl, rfl⟩
    go_wp2
    go_ret
    exact ⟨rfl, by (repeat' (first | with_reducible exact Below.refl _ _ | with_reducible assumption | with_reducible refine Below.setCell ?_ ?_ _ | with_reducible refine Below.alloc ?_ ?_ _ | with_reducible refine Below.drew ?_ | with_reducible refine belDrewN ?_ _ | with_reducible refine Below.trans ?_ (Below.mono (by assumption) ?_) | omega | (simp; omega) | (simp; done)))⟩
set_option maxHeartbeats 1000000 in
theorem law_FnExactTableFind (xs : List En) (v : Value) (n : Int) (w : World) (hs : Ens w v xs) :
    Calls Try.prog 5 #[v, .int .i64 n] w fun e w' => e = .returned (.bool true) ∧ Below w.heap.size w w' := by
  obtain ⟨a, cap, rfl, hlc, hcm, -⟩ := id hs
  have hcm' := hcm; unfold maxLen at hcm'
  by_cases hn : xs.length ≤ 1048576
  · go_enter Try.func5, Try.ntmps5
    go_wp2_with fail
    refine (szEntryS_any a xs.length cap 1048576 (by omega) (by omega) (by omega) w).mono ?_
    rw [lenOk _ hn]
    rintro e _ ⟨rfl, rfl⟩
    go_wp2_with fail
    refine (toEntryS_any xs _ _ hs hn).mono ?_
    rintro e w1 ⟨v1, rfl, ho1, hb1⟩
    go_wp2_with fail
    refine (specTF_any xs _ _ _ ho1.ens).mono ?_
    rintro e w2 ⟨rfl, hb2⟩
    have hs2 := hs.below (hb1.trans (hb2.mono hb1.size))
    go_wp2_with fail
    refine (toEntryS_any xs _ _ hs2 hn).mono ?_
    rintro e w3 ⟨v3, rfl, ho3, hb3⟩
    have hw3 : Below w.heap.size w w3 := (hb1.trans (hb2.mono hb1.size)).trans (hb3.mono (Nat.le_trans hb1.size hb2.size))
    go_wp2_with fail
    refine (implTF_any xs _ _ _ ho3.ens).mono ?_
    rintro e w4 ⟨rfl, hb4⟩
    have hw4 := hw3.trans (hb4.mono hw3.size)
    go_wp2_with fail
    refine (toEntryS_any xs _ _ (hs.below hw4) hn).mono ?_
    rintro e w5 ⟨v5, rfl, ho5, hb5⟩
    have hw5 := hw4.trans (hb5.mono hw4.size)
    go_wp2_with fail
    refine (eqEntryS_b (ho3.ens.below (hb4.trans (hb5.mono hb4.size))) ho5.ens (decide_eq_true rfl)).mono ?_
    rintro e w6 ⟨rfl, hb6⟩
    go_wp2
    go_ret
    exact ⟨rfl, hw5.trans (hb6.mono hw5.size)⟩
  · go_enter Try.func5, Try.ntmps5
    go_wp2_with fail
    refine (szEntryS_any a xs.length cap 1048576 (by omega) (by omega) (by omega) w).mono ?_
    rw [lenBig _ hn]
    rintro e _ ⟨rfl, rfl⟩
    go_wp2
    go_ret
    exact ⟨rfl, by (repeat' (first | with_reducible exact Below.refl _ _ | with_reducible assumption | with_reducible refine Below.setCell ?_ ?_ _ | with_reducible refine Below.alloc ?_ ?_ _ | with_reducible refine Below.drew ?_ | with_reducible refine belDrewN ?_ _ | with_reducible refine Below.trans ?_ (Below.mono (by assumption) ?_) | omega | (simp; omega) | (simp; done)))⟩
end Go.Proofs.Ytfnfpekjjmejnaa
