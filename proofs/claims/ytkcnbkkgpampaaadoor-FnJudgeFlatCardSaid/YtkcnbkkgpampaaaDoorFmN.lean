/- Boxes and rules without calls: the laws' own helpers that read. -/
import Derived.Test.YtkcnbkkgpampaaaDoorFmL
namespace Go.Proofs.YtkcnbkkgpampaaaDoor
open Go.RowKit
def sumTo {α : Type} (f : α → Nat) (l : List α) (k : Nat) : Nat := ((l.take k).map f).sum
theorem sumTo_zero {α : Type} (f : α → Nat) (l : List α) : sumTo f l 0 = 0 := by simp [sumTo]
theorem sumTo_succ {α : Type} {f : α → Nat} {l : List α} {k : Nat} {x : α} (hx : l[k]? = some x) : sumTo f l (k + 1) = sumTo f l k + f x := by
  unfold sumTo
  rw [List.take_add_one, hx, List.map_append, List.sum_append]
  simp
theorem sumTo_le {α : Type} (f : α → Nat) (l : List α) : ∀ k d, sumTo f l k ≤ sumTo f l (k + d)
  | k, 0 => Nat.le_refl _
  | k, d + 1 => by
    refine Nat.le_trans (sumTo_le f l k d) ?_
    rw [show k + (d + 1) = (k + d) + 1 from rfl]
    cases hx : l[k + d]? with
    | none =>
      unfold sumTo
      have := List.getElem?_eq_none_iff.1 hx
      rw [List.take_of_length_le this, List.take_of_length_le (by omega)]
      exact Nat.le_refl _
    | some x => rw [sumTo_succ hx]; omega
def bxN (b : Bx) : Nat := b.length + sumTo List.length b b.length
def ftN (fs : List Ft) : Nat := fs.length + sumTo (fun f => bxN f.box) fs fs.length
def szOf (l : Int) (n : Nat) : Int := if l < n then -1 else l - n
set_option maxHeartbeats 1000000 in
theorem szSpanSS_any {lo : Nat} (b : Bx) (v : Value) (l : Int) (w : World) (hs : Rws lo w v b) (h0 : 0 ≤ l) (h1 : l ≤ 1048576) :
    Calls Tryd.prog 119 #[v, .int .i64 l] w fun e w' => e = .returned (.int .i64 (szOf l (bxN b))) ∧ w = w' := by
  obtain ⟨a, cap, rfl, hlc, hcm⟩ := hs.form
  have hb : bxN b = b.length + sumTo List.length b b.length := rfl
  unfold maxLen at hcm
  generalize hn : b.length = n at *
  have HN := Lib.hid hn
  clear hn
  by_cases hl : l < n
  · have HE := Lib.hid (show szOf l (bxN b) = -1 by unfold szOf; rw [if_pos (by omega)])
    clear hb
    go_enter Tryd.func119, Tryd.ntmps119
    go_wp2
    go_ret
    exact ⟨ret_int HE.out.symm, rfl⟩
  · have HB := Lib.hid hb
    clear hb
    go_enter Tryd.func119, Tryd.ntmps119
    go_wp2_with fail
    go_loopw [1, 5] (fun x i wr => ∃ k : Nat, k ≤ n ∧ i = .int .i64 k ∧ x = .int .i64 (l - n - (sumTo List.length b k : Nat)) ∧ (n : Int) + (sumTo List.length b k : Nat) ≤ l ∧ wr = w) (fun _ i _ => n - (intOf i).toNat)
    case atStart => exact ⟨0, by omega, rfl, by rw [sumTo_zero]; simp, by rw [sumTo_zero]; simp; omega, rfl⟩
    case round =>
      obtain ⟨k, hk, rfl, rfl, hle, rfl⟩ := hrel
      by_cases hlt : k < n
      · have i1 : (k : Int) < (n : Int) := by omega
        have i2 : (0 : Int) ≤ (k : Int) := by omega
        obtain ⟨xs, hx⟩ : ∃ xs, b[k]? = some xs := ⟨_, List.getElem?_eq_getElem (by rw [HN.out]; exact hlt)⟩
        obtain ⟨b', o, sv, rfl, hbl, c0, hsv⟩ := hs.at hx
        obtain ⟨sa, scap, rfl, hsl, hsm⟩ := hsv.form
        unfold maxLen at hsm
        have hsu := sumTo_succ (f := List.length) hx
        have hle2 := sumTo_le List.length b (k + 1) (n - (k + 1))
        rw [show k + 1 + (n - (k + 1)) = n by omega] at hle2
        clear hsv hx
        generalize hsk : sumTo List.length b k = s at *
        generalize hxl : xs.length = q at *
        have HSU := Lib.hid hsu
        have HL2 := Lib.hid hle2
        clear hsk hxl hsu hle2
        obtain ⟨z, hz⟩ : ∃ z : Int, l - n - (s : Nat) = z := ⟨_, rfl⟩
        rw [hz]
        have hz0 : 0 ≤ z := by omega
        have hz1 : z ≤ 1048576 := by omega
        by_cases hq : z < q
        · have HE := Lib.hid (show szOf l (bxN b) = -1 by
            have h1 := HSU.out; have h2 := HL2.out; have h3 := HB.out
            unfold szOf; rw [if_pos (by omega)])
          go_wp2_with fail
          refine (szSpanS_any sa q scap z (by omega) hz0 (by omega) _).mono ?_
          rw [if_pos (by omega)]
          rintro e _ ⟨rfl, rfl⟩
          go_wp2
          go_ret
          exact ⟨ret_int HE.out.symm, rfl⟩
        · have hq' : ¬ (z - (q : Int) < 0) := by omega
          have HZ := Lib.hid hz
          clear hz
          go_wp2_with fail
          refine (szSpanS_any sa q scap z (by omega) hz0 (by omega) _).mono ?_
          rw [if_neg (by omega)]
          rintro e _ ⟨rfl, rfl⟩
          go_wp2
          go_roundw
          case rel => exact ⟨k + 1, by omega, by go_num, by rw [HSU.out]; congr 1; have := HZ.out; push_cast; omega, by rw [HSU.out]; have := HZ.out; push_cast; omega, trivial⟩
          case measure => simp [intOf]; omega
      · have hkn : k = n := by omega
        have HE := Lib.hid (show szOf l (bxN b) = l - n - (sumTo List.length b k : Nat) by
          have h3 := HB.out
          rw [← hkn] at h3 ⊢
          rw [← hkn] at hle
          unfold szOf; rw [if_neg (by omega), h3]; push_cast; omega)
        generalize sumTo List.length b k = s at *
        go_wp2
        go_ret
        exact ⟨ret_int HE.out.symm, rfl⟩
theorem szOf_cases (l : Int) (n : Nat) : (szOf l n = -1 ∧ l < n) ∨ (szOf l n = l - n ∧ (n : Int) ≤ l) := by
  unfold szOf
  by_cases h : l < n
  · exact .inl ⟨if_pos h, h⟩
  · exact .inr ⟨if_neg h, by omega⟩
set_option maxHeartbeats 1000000 in
theorem szBox_any {lo : Nat} (b : Bx) (v : Value) (l : Int) (w : World) (hs : Rws lo w v b) (h0 : 0 ≤ l) (h1 : l ≤ 1048576) :
    Calls Tryd.prog 95 #[.agg #[v], .int .i64 l] w fun e w' => e = .returned (.int .i64 (szOf l (bxN b))) ∧ Below w.heap.size w w' := by
  obtain ⟨a, cap, rfl, hlc, hcm⟩ := hs.form
  have hal : Below w.heap.size w (w.alloc (.cells #[.slice a b.length cap] 84)) := (Below.refl _ _).alloc (Nat.le_refl _) _
  have hC := Lib.hid (szOf_cases l (bxN b))
  obtain ⟨z, hz⟩ : ∃ z, szOf l (bxN b) = z := ⟨_, rfl⟩
  go_enter Tryd.func95, Tryd.ntmps95
  go_wp2_with fail
  refine (szSpanSS_any b _ l _ (hs.below hal) h0 h1).mono ?_
  rw [hz]
  rintro e _ ⟨rfl, rfl⟩
  have hC' := hC.out
  rw [hz] at hC'
  have HZ := Lib.hid hz
  clear hC hz
  by_cases hz0 : z < 0
  · have hz1 : z = -1 := by omega
    subst hz1
    go_wp2
    go_ret
    exact ⟨ret_int HZ.out.symm, hal⟩
  · go_wp2
    go_ret
    exact ⟨ret_int HZ.out.symm, hal⟩
set_option maxHeartbeats 1000000 in
theorem szFlat_any {lo : Nat} (b : Bx) (v : Value) (c : Bool) (l : Int) (w : World) (hs : Rws lo w v b) (h0 : 0 ≤ l) (h1 : l ≤ 1048576) :
    Calls Tryd.prog 60 #[.agg #[v, .bool c], .int .i64 l] w fun e w' => e = .returned (.int .i64 (szOf l (bxN b))) ∧ Below w.heap.size w w' := by
  obtain ⟨a, cap, rfl, hlc, hcm⟩ := hs.form
  have hal : Below w.heap.size w (w.alloc (.cells #[.slice a b.length cap, .bool c] 86)) := (Below.refl _ _).alloc (Nat.le_refl _) _
  have hC := Lib.hid (szOf_cases l (bxN b))
  obtain ⟨z, hz⟩ : ∃ z, szOf l (bxN b) = z := ⟨_, rfl⟩
  go_enter Tryd.func60, Tryd.ntmps60
  go_wp2_with fail
  refine (szBox_any b _ l _ (hs.below hal) h0 h1).mono ?_
  rw [hz]
  rintro e w1 ⟨rfl, hb1⟩
  have hw1 : Below w.heap.size w w1 := hal.trans (hb1.mono (by simp))
  have hC' := hC.out
  rw [hz] at hC'
  have HZ := Lib.hid hz
  clear hC hz hb1
  by_cases hz0 : z < 0
  · have hz1 : z = -1 := by omega
    subst hz1
    go_wp2
    go_ret
    exact ⟨ret_int HZ.out.symm, hw1⟩
  · go_wp2
    go_ret
    exact ⟨ret_int HZ.out.symm, hw1⟩
set_option maxHeartbeats 1000000 in
theorem szFlatS_any {lo : Nat} (b : List Ft) (v : Value) (l : Int) (w : World) (hs : Fts lo w v b) (h0 : 0 ≤ l) (h1 : l ≤ 1048576) :
    Calls Tryd.prog 15 #[v, .int .i64 l] w fun e w' => e = .returned (.int .i64 (szOf l (ftN b))) ∧ Below w.heap.size w w' := by
  obtain ⟨a, cap, rfl, hlc, hcm⟩ := hs.form
  have hb : ftN b = b.length + sumTo (fun f => bxN f.box) b b.length := rfl
  unfold maxLen at hcm
  generalize hn : b.length = n at *
  have HN := Lib.hid hn
  clear hn
  by_cases hl : l < n
  · have HE := Lib.hid (show szOf l (ftN b) = -1 by unfold szOf; rw [if_pos (by omega)])
    clear hb
    go_enter Tryd.func15, Tryd.ntmps15
    go_wp2
    go_ret
    exact ⟨ret_int HE.out.symm, Below.refl _ _⟩
  · have HB := Lib.hid hb
    clear hb
    go_enter Tryd.func15, Tryd.ntmps15
    go_wp2_with fail
    go_loopw [1, 5] (fun x i wr => ∃ k : Nat, k ≤ n ∧ i = .int .i64 k ∧ x = .int .i64 (l - n - (sumTo (fun f : Ft => bxN f.box) b k : Nat)) ∧ (n : Int) + (sumTo (fun f : Ft => bxN f.box) b k : Nat) ≤ l ∧ Below w.heap.size w wr) (fun _ i _ => n - (intOf i).toNat)
    case atStart => exact ⟨0, by omega, rfl, by rw [sumTo_zero]; simp, by rw [sumTo_zero]; simp; omega, Below.refl _ _⟩
    case round =>
      obtain ⟨k, hk, rfl, rfl, hle, hbr⟩ := hrel
      have hzr := hbr.size
      by_cases hlt : k < n
      · have i1 : (k : Int) < (n : Int) := by omega
        have i2 : (0 : Int) ≤ (k : Int) := by omega
        obtain ⟨f, hx⟩ : ∃ f, b[k]? = some f := ⟨_, List.getElem?_eq_getElem (by rw [HN.out]; exact hlt)⟩
        obtain ⟨b', o, sv, rfl, hbl, c0, c1, hsv⟩ := (hs.below hbr).at hx
        have HSV := Lib.hid hsv
        have hsu := sumTo_succ (f := fun f : Ft => bxN f.box) hx
        have hle2 := sumTo_le (fun f : Ft => bxN f.box) b (k + 1) (n - (k + 1))
        rw [show k + 1 + (n - (k + 1)) = n by omega] at hle2
        clear hsv hx
        generalize hsk : sumTo (fun f : Ft => bxN f.box) b k = s at *
        have HSU := Lib.hid hsu
        have HL2 := Lib.hid hle2
        clear hsk hsu hle2
        obtain ⟨z, hz⟩ : ∃ z : Int, l - n - (s : Nat) = z := ⟨_, rfl⟩
        rw [hz]
        have hz0 : 0 ≤ z := by omega
        have hz1 : z ≤ 1048576 := by omega
        have hC := szOf_cases z (bxN f.box)
        obtain ⟨y, hy⟩ : ∃ y, szOf z (bxN f.box) = y := ⟨_, rfl⟩
        rw [hy] at hC
        have HC := Lib.hid hC
        have HZ := Lib.hid hz
        clear hz hC
        go_wp2_with fail
        refine (szFlat_any f.box sv f.acc z _ HSV.out hz0 hz1).mono ?_
        rw [hy]
        rintro e w9 ⟨rfl, hb9⟩
        have hb10 : Below w.heap.size w w9 := hbr.trans (hb9.mono hzr)
        clear hy hb9
        by_cases hq : y < 0
        · have HE := Lib.hid (show szOf l (ftN b) = -1 by
            have h1 := HSU.out; have h2 := HL2.out; have h3 := HB.out; have h4 := HZ.out; have h5 := HC.out
            unfold szOf; rw [if_pos (by omega)])
          go_wp2
          go_ret
          exact ⟨ret_int HE.out.symm, hb10⟩
        · go_wp2
          go_roundw
          case rel => exact ⟨k + 1, by omega, by go_num, by rw [HSU.out]; congr 1; have := HZ.out; have := HC.out; push_cast; omega, by rw [HSU.out]; have := HZ.out; have := HC.out; push_cast; omega, hb10⟩
          case measure => simp [intOf]; omega
      · have hkn : k = n := by omega
        have HE := Lib.hid (show szOf l (ftN b) = l - n - (sumTo (fun f : Ft => bxN f.box) b k : Nat) by
          have h3 := HB.out
          rw [← hkn] at h3 ⊢
          rw [← hkn] at hle
          unfold szOf; rw [if_neg (by omega), h3]; push_cast; omega)
        generalize sumTo (fun f : Ft => bxN f.box) b k = s at *
        go_wp2
        go_ret
        exact ⟨ret_int HE.out.symm, hbr⟩
end Go.Proofs.YtkcnbkkgpampaaaDoor
