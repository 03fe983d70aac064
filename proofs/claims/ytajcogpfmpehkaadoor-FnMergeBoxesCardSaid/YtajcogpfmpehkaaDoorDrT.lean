/- A range added to a set: the reference's walk. -/
import Derived.Test.YtajcogpfmpehkaaDoorRgX
import Derived.Test.YtajcogpfmpehkaaDoorDt
import Derived.Test.YtajcogpfmpehkaaDoorRdPk
namespace Go.Proofs.YtajcogpfmpehkaaDoor
open Go.RowKit
/-- Two numbers in a block of the call's own. -/
structure Two (w : World) (b : Nat) (v0 v1 : Int) : Prop where
  lt : b < w.heap.size
  c0 : w.cell? ⟨b, 0, none⟩ = some (.int .i64 v0)
  c1 : w.cell? ⟨b, 1, none⟩ = some (.int .i64 v1)
  frz : ∀ j, w.frozen? ⟨b, j, none⟩ = false
theorem Two.mv {R B : Nat} {w w' : World} {b : Nat} {v0 v1 : Int} (h : Two w b v0 v1) (hm : Mv R B w w') (hb : b < B) (hne : b ≠ R) : Two w' b v0 v1 :=
  ⟨Nat.lt_of_lt_of_le h.lt hm.size, (mvC hm b hb hne 0).trans h.c0, (mvC hm b hb hne 1).trans h.c1, fun j => (mvF hm b hb hne j).trans (h.frz j)⟩
theorem Two.new (w : World) (v0 v1 : Int) (ty : TypeId) : Two (w.alloc (.cells #[.int .i64 v0, .int .i64 v1] ty)) w.heap.size v0 v1 := ⟨by simp, by simp, by simp, frz_new w _ _⟩
theorem Two.old {w : World} {b : Nat} {v0 v1 : Int} (h : Two w b v0 v1) (o : Obj) : Two (w.alloc o) b v0 v1 :=
  h.mv (R := w.heap.size) (B := w.heap.size) (Mv.of_below ((Below.refl _ _).alloc (Nat.le_refl _) _)) h.lt (Nat.ne_of_lt h.lt)
theorem Two.set0 {w : World} {b : Nat} {v0 v1 : Int} (h : Two w b v0 v1) (u : Int) : Two (w.setCell ⟨b, 0, none⟩ (.int .i64 u)) b u v1 := by
  obtain ⟨l, h0, h1, hf⟩ := h
  exact ⟨by simpa [World.setCell] using l, World.cell?_setCell_same' _ _ _ (by rw [h0]; rfl), by rw [World.cell?_setCell_other _ _ _ _ (by simp)]; exact h1, fun j => by simpa using hf j⟩
theorem Two.set1 {w : World} {b : Nat} {v0 v1 : Int} (h : Two w b v0 v1) (u : Int) : Two (w.setCell ⟨b, 1, none⟩ (.int .i64 u)) b v0 u := by
  obtain ⟨l, h0, h1, hf⟩ := h
  exact ⟨by simpa [World.setCell] using l, by rw [World.cell?_setCell_other _ _ _ _ (by simp)]; exact h0, World.cell?_setCell_same' _ _ _ (by rw [h1]; rfl), fun j => by simpa using hf j⟩
theorem Two.far {w : World} {b : Nat} {v0 v1 : Int} (h : Two w b v0 v1) {p : Addr} (hp : p.block ≠ b) (u : Value) : Two (w.setCell p u) b v0 v1 := by
  obtain ⟨l, h0, h1, hf⟩ := h
  have hb : ∀ o, (w.setCell p u).cell? ⟨b, o, none⟩ = w.cell? ⟨b, o, none⟩ := fun o => World.cell?_of_block (a := ⟨b, o, none⟩) (Below.heap_setCell _ _ _ _ (fun e => hp e.symm))
  exact ⟨by simpa [World.setCell] using l, (hb 0).trans h0, (hb 1).trans h1, fun j => by simpa using hf j⟩
def InT (t : Int) (xs : List Sp) : Prop := ∀ (k : Nat) x, xs[k]? = some x → 0 ≤ x.lo ∧ x.lo ≤ x.hi ∧ x.hi ≤ t
def SetT (m : Nat) (t : Int) (w : World) (e : Ending) (w' : World) : Prop := ∃ v xs, e = .returned v ∧ OwnSp w.heap.size w' v xs ∧ xs.length ≤ m ∧ InT t xs ∧ Below w.heap.size w w'
theorem Two.grown {w w' : World} {b : Nat} {v0 v1 : Int} {row : Option Nat} (h : Two w b v0 v1) (hg : w.grownBy w' row) (hne : some b ≠ row) : Two w' b v0 v1 := by
  obtain ⟨l, h0, h1, hf⟩ := h
  have hb := hg.block b l hne
  exact ⟨Nat.lt_of_lt_of_le l hg.size, (World.cell?_of_block (a := ⟨b, 0, none⟩) hb).trans h0, (World.cell?_of_block (a := ⟨b, 1, none⟩) hb).trans h1, fun j => (World.frozen?_of_block (a := ⟨b, j, none⟩) hb).trans (hf j)⟩
theorem InT.snoc {t : Int} {xs : List Sp} (h : InT t xs) {x : Sp} (h0 : 0 ≤ x.lo) (h1 : x.lo ≤ x.hi) (h2 : x.hi ≤ t) : InT t (xs ++ [x]) := by
  intro k y hk
  by_cases hl : k < xs.length
  · rw [List.getElem?_append_left hl] at hk; exact h k y hk
  · have := (List.getElem?_eq_some_iff.1 hk).1
    simp at this
    obtain rfl : k = xs.length := by omega
    simp at hk
    subst hk; exact ⟨h0, h1, h2⟩
theorem own_ne {w : World} {v : Value} {ys : List Sp} {b : Nat} (h : OwnSp (b + 1) w v ys) : some b ≠ v.ownBlock := fun e => by have := (World.ownsRow.lt h b e.symm).1; omega
theorem sadd_lt {x s : Sp} {xs : List Sp} {p : Bool} (h : x.hi + 1 < s.lo) : sadd (x :: xs) p s = x :: sadd xs p s := by
  conv => lhs; unfold sadd
  rw [if_pos h]
theorem sadd_gtF {x s : Sp} {xs : List Sp} (h : ¬ x.hi + 1 < s.lo) (h2 : s.hi + 1 < x.lo) : sadd (x :: xs) false s = s :: x :: sadd xs true s := by
  conv => lhs; unfold sadd
  rw [if_neg h, if_pos h2]
  rfl
theorem sadd_gtT {x s : Sp} {xs : List Sp} (h : ¬ x.hi + 1 < s.lo) (h2 : s.hi + 1 < x.lo) : sadd (x :: xs) true s = x :: sadd xs true s := by
  conv => lhs; unfold sadd
  rw [if_neg h, if_pos h2]
  rfl
theorem sadd_mid {x s : Sp} {xs : List Sp} {p : Bool} (h : ¬ x.hi + 1 < s.lo) (h2 : ¬ s.hi + 1 < x.lo) : sadd (x :: xs) p s = sadd xs p ⟨min s.lo x.lo, max s.hi x.hi⟩ := by
  conv => lhs; unfold sadd
  rw [if_neg h, if_neg h2]
set_option maxHeartbeats 4000000 in
set_option maxRecDepth 100000 in
theorem l1Add_e {lo : Nat} {xs : List Sp} {u : Value} {t s1 s2 : Int} {w : World} (hs : Sps lo w u xs) (hx : xs.length ≤ 100) (ht : InT t xs) (ht1 : t ≤ 65535) (h0 : 0 ≤ s1) (h1 : s1 ≤ s2) (h2 : s2 ≤ t) :
    Calls Tryd.prog 95 #[u, .agg #[.int .i64 s1, .int .i64 s2]] w fun e w' => ∃ v, e = .returned v ∧ OwnSp w.heap.size w' v (sadd xs false ⟨s1, s2⟩) ∧ (sadd xs false ⟨s1, s2⟩).length ≤ xs.length + 1 ∧ InT t (sadd xs false ⟨s1, s2⟩) ∧ Below w.heap.size w w' := by
  obtain ⟨a, cap, rfl, hlc, hcm⟩ := hs.form
  unfold maxLen at hcm
  generalize hn : xs.length = n at *
  have HN := Lib.hid hn
  have HS := Lib.hid hs
  have HT := Lib.hid ht
  obtain ⟨i0, hi, hy0, hy1, hy2⟩ := info_parts infoSp
  clear hn hs ht
  go_enter Tryd.func95, Tryd.ntmps95
  go_wp2_with fail
  have hal : Below w.heap.size w ((w.alloc (.cells #[.int .i64 s1, .int .i64 s2] 70)).alloc (.cells #[] 70)) := by (repeat' (first | with_reducible exact Below.refl _ _ | with_reducible assumption | with_reducible refine Below.setCell ?_ ?_ _ | with_reducible refine Below.alloc ?_ ?_ _ | with_reducible refine Below.drew ?_ | with_reducible refine belDrewN ?_ _ | with_reducible refine Below.trans ?_ (Below.mono (by assumption) ?_) | omega | (simp; omega) | (simp; done)))
  have hT0 := (Two.new w s1 s2 70).old (.cells #[] 70)
  have HO0 : OwnSp (w.heap.size + 1) ((w.alloc (.cells #[.int .i64 s1, .int .i64 s2] 70)).alloc (.cells #[] 70)) (.slice (some ⟨w.heap.size + 1, 0, none⟩) 0 0) [] := by
    have := OwnSp.lit (base := w.heap.size + 1) (w := w.alloc (.cells #[.int .i64 s1, .int .i64 s2] 70)) (by simp)
    simpa using this
  go_loopw [5, 6, 7] (fun o q i wr => ∃ (k : Nat) (ys : List Sp) (pl : Bool) (v0 v1 : Int), k ≤ n ∧ i = .int .i64 k ∧ q = .bool pl ∧ Hid (OwnSp (w.heap.size + 1) wr o ys) ∧ Hid (ys.length ≤ k + (if pl then 1 else 0)) ∧ Hid (InT t ys) ∧ Hid (sadd xs false ⟨s1, s2⟩ = ys ++ sadd (xs.drop k) pl ⟨v0, v1⟩) ∧ Two wr w.heap.size v0 v1 ∧ 0 ≤ v0 ∧ v0 ≤ v1 ∧ v1 ≤ t ∧ Below w.heap.size w wr) (fun _ _ i _ => n - (intOf i).toNat)
  case atStart => exact ⟨0, [], false, s1, s2, by omega, rfl, rfl, Lib.hid HO0, Lib.hid (by simp), Lib.hid (fun k x h => by simp at h), Lib.hid (by simp), hT0, h0, h1, h2, hal⟩
  case round =>
    clear HO0 hT0 hal
    obtain ⟨k, ys, pl, v0, v1, hk, rfl, rfl, HO, HLp, HI, HA, hT, g0, g1, g2, hbr⟩ := hrel
    have HL := Lib.hid (show ys.length ≤ 102 by have := HLp.out; split at this <;> omega)
    have hzr := hbr.size
    have hzr' := hT.lt
    have hne := own_ne HO.out
    by_cases hlt : k < n
    · have i1 : (k : Int) < (n : Int) := by omega
      have i2 : (0 : Int) ≤ (k : Int) := by omega
      obtain ⟨b, o, f1, f2, rfl, hbl, hx1, d0, d1⟩ := HS.out.at (show k < xs.length by rw [HN.out]; exact hlt)
      obtain ⟨j0, j1, j2⟩ := HT.out k _ hx1
      simp only at j0 j1 j2
      have e0 := (hbr.cell (p := ⟨b, o + k * 2, none⟩) hbl).trans d0
      have e1 := (hbr.cell (p := ⟨b, o + k * 2 + 1, none⟩) hbl).trans d1
      have hal : Below w.heap.size w (wr.alloc (.cells #[.int .i64 f1, .int .i64 f2] 70)) := hbr.alloc (by omega) _
      have hTx := hT.old (.cells #[.int .i64 f1, .int .i64 f2] 70)
      obtain ⟨l0, c0, c1, cf⟩ := id hTx
      have HXD := Lib.hid (show xs.drop k = ⟨f1, f2⟩ :: xs.drop (k + 1) by
        obtain ⟨q1, q2⟩ := List.getElem?_eq_some_iff.1 hx1
        rw [List.drop_eq_getElem_cons q1, q2])
      clear hx1 d0 d1
      by_cases hc : f2 + 1 < v0
      · go_wp2_with (at_builtin; refine wpList_append_own _ rfl _ _ 71 rfl (w.heap.size + 1) 70 i0 _ 2 16 Tryd.underlying71 hi hy0 hy1 hy2 rfl (by decide) _ _ _ rfl (World.ownsRow.alloc (World.ownsRow.alloc HO.out _) _) ⟨wr.heap.size + 1, 0, none⟩ 1 1 (Sp.enc ⟨f1, f2⟩) rfl rfl (cellsNew2 wr _ _ (Sp.enc ⟨f1, f2⟩) _) ?c2 ?c3 ?c4 ?c5 ?_)
        case c2 => simp [Value.oneCell']
        case c3 => have := HL.out; simp only [maxLen]; omega
        case c4 => have := HL.out; omega
        case c5 => first | omega | (simp; omega)
        intro v' w4 hown4 hgrow4 _
        have hB := belGrown (hal.alloc (by simp; omega) _) (World.ownsRow.alloc (World.ownsRow.alloc (OwnSl.mono HO.out (by omega : w.heap.size ≤ w.heap.size + 1)) _) _) hgrow4 (by simp; omega)
        have hT4 := (hTx.old _).grown hgrow4 hne
        have HO4 := Lib.hid (OwnSl.pushed rfl hown4)
        have HI4 := Lib.hid (HI.out.snoc (x := ⟨f1, f2⟩) j0 j1 j2)
        clear hown4 hgrow4 c0 c1 cf
        go_wp2
        go_roundw
        case rel => exact ⟨k + 1, _, pl, v0, v1, by omega, by go_num, rfl, HO4, Lib.hid (by have := HLp.out; simp; split at this <;> simp_all <;> omega), HI4, Lib.hid (by rw [HA.out, HXD.out, sadd_lt hc, List.append_assoc]; rfl), hT4, g0, g1, g2, hB⟩
        case measure => simp [intOf]; omega
      · have hcd : decide (f2 + 1 < v0) = false := decide_eq_false hc
        have HHC := Lib.hid hc
        by_cases hd : v1 + 1 < f1
        · cases pl
          · go_upto_region 12 with (fail)
            go_wp2_with (at_builtin; refine wpList_append_own _ rfl _ _ 71 rfl (w.heap.size + 1) 70 i0 _ 2 16 Tryd.underlying71 hi hy0 hy1 hy2 rfl (by decide) _ _ _ rfl (World.ownsRow.alloc (World.ownsRow.alloc HO.out _) _) ⟨wr.heap.size + 1, 0, none⟩ 1 1 (Sp.enc ⟨v0, v1⟩) rfl rfl (cellsNew2 wr _ _ (Sp.enc ⟨v0, v1⟩) _) ?c2 ?c3 ?c4 ?c5 ?_)
            case c2 => simp [Value.oneCell']
            case c3 => have := HL.out; simp only [maxLen]; omega
            case c4 => have := HL.out; omega
            case c5 => first | omega | (simp; omega)
            intro v' w4 hown4 hgrow4 _
            have hB4 := belGrown (hal.alloc (by simp; omega) _) (World.ownsRow.alloc (World.ownsRow.alloc (OwnSl.mono HO.out (by omega : w.heap.size ≤ w.heap.size + 1)) _) _) hgrow4 (by simp; omega)
            have hT4 := (hTx.old _).grown hgrow4 hne
            have hx4 : ∀ j, w4.cell? ⟨wr.heap.size, j, none⟩ = (wr.alloc (.cells #[.int .i64 f1, .int .i64 f2] 70)).cell? ⟨wr.heap.size, j, none⟩ := fun j => by
              have hnx : some wr.heap.size ≠ (u5).ownBlock := fun e => by have := (World.ownsRow.lt HO.out _ e.symm).2; omega
              refine (World.cell?_of_block (a := ⟨wr.heap.size, j, none⟩) (hgrow4.block _ (by simp only [World.size_alloc]; omega) hnx)).trans ?_
              exact World.cell?_alloc_lt _ _ ⟨wr.heap.size, j, none⟩ (by simp)
            have x0 : w4.cell? ⟨wr.heap.size, 0, none⟩ = some (.int .i64 f1) := by rw [hx4]; simp
            have x1 : w4.cell? ⟨wr.heap.size, 1, none⟩ = some (.int .i64 f2) := by rw [hx4]; simp
            have HO4 := Lib.hid (OwnSl.pushed rfl hown4)
            have HL4 := Lib.hid (show (ys ++ [(⟨v0, v1⟩ : Sp)]).length ≤ 103 by have := HL.out; simp; omega)
            have HI4 := Lib.hid ((HI.out.snoc (x := ⟨v0, v1⟩) g0 g1 g2).snoc (x := ⟨f1, f2⟩) j0 j1 j2)
            have hne4 := own_ne HO4.out
            have hz4 := hB4.size
            obtain ⟨m0, k0, k1, kf⟩ := id hT4
            clear hown4 hgrow4 c0 c1 cf hx4
            go_wp2_with (at_builtin; refine wpList_append_own _ rfl _ _ 71 rfl (w.heap.size + 1) 70 i0 _ 2 16 Tryd.underlying71 hi hy0 hy1 hy2 rfl (by decide) _ _ _ rfl (World.ownsRow.alloc HO4.out _) ⟨w4.heap.size, 0, none⟩ 1 1 (Sp.enc ⟨f1, f2⟩) rfl rfl (cellsNew w4 (Sp.enc ⟨f1, f2⟩) _) ?c2 ?c3 ?c4 ?c5 ?_)
            case c2 => simp [Value.oneCell']
            case c3 => have := HL4.out; simp only [maxLen]; omega
            case c4 => have := HL4.out; omega
            case c5 => first | omega | (simp; omega)
            intro v5 w5 hown5 hgrow5 _
            have hB5 := belGrown (hB4.alloc (by omega) _) (World.ownsRow.alloc (OwnSl.mono HO4.out (by omega : w.heap.size ≤ w.heap.size + 1)) _) hgrow5 (by simp; omega)
            have hT5 := (hT4.old _).grown hgrow5 hne4
            have HO5 := Lib.hid (show OwnSp (w.heap.size + 1) w5 v5 ((ys ++ [⟨v0, v1⟩]) ++ [⟨f1, f2⟩]) from by unfold OwnSp OwnSl; simpa using! hown5)
            clear hown5 hgrow5 k0 k1 kf x0 x1
            go_wp2
            go_roundw
            case rel => exact ⟨k + 1, _, true, v0, v1, by omega, by go_num, rfl, HO5, Lib.hid (by have := HLp.out; simp at this ⊢; omega), HI4, Lib.hid (by rw [HA.out, HXD.out, sadd_gtF (x := ⟨f1, f2⟩) (s := ⟨v0, v1⟩) (Int.not_lt.2 HHC.out) hd, List.append_assoc, List.append_assoc]; rfl), hT5, g0, g1, g2, hB5⟩
            case measure => simp [intOf]; omega
          · go_wp2_with (at_builtin; refine wpList_append_own _ rfl _ _ 71 rfl (w.heap.size + 1) 70 i0 _ 2 16 Tryd.underlying71 hi hy0 hy1 hy2 rfl (by decide) _ _ _ rfl (World.ownsRow.alloc (World.ownsRow.alloc HO.out _) _) ⟨wr.heap.size + 1, 0, none⟩ 1 1 (Sp.enc ⟨f1, f2⟩) rfl rfl (cellsNew2 wr _ _ (Sp.enc ⟨f1, f2⟩) _) ?c2 ?c3 ?c4 ?c5 ?_)
            case c2 => simp [Value.oneCell']
            case c3 => have := HL.out; simp only [maxLen]; omega
            case c4 => have := HL.out; omega
            case c5 => first | omega | (simp; omega)
            intro v' w4 hown4 hgrow4 _
            have hB := belGrown (hal.alloc (by simp; omega) _) (World.ownsRow.alloc (World.ownsRow.alloc (OwnSl.mono HO.out (by omega : w.heap.size ≤ w.heap.size + 1)) _) _) hgrow4 (by simp; omega)
            have hT4 := (hTx.old _).grown hgrow4 hne
            have HO4 := Lib.hid (OwnSl.pushed rfl hown4)
            have HI4 := Lib.hid (HI.out.snoc (x := ⟨f1, f2⟩) j0 j1 j2)
            clear hown4 hgrow4 c0 c1 cf
            go_wp2
            go_roundw
            case rel => exact ⟨k + 1, _, true, v0, v1, by omega, by go_num, rfl, HO4, Lib.hid (by have := HLp.out; simp at this ⊢; omega), HI4, Lib.hid (by rw [HA.out, HXD.out, sadd_gtT (x := ⟨f1, f2⟩) (s := ⟨v0, v1⟩) (Int.not_lt.2 HHC.out) hd, List.append_assoc]; rfl), hT4, g0, g1, g2, hB⟩
            case measure => simp [intOf]; omega
        · have hdd : decide (v1 + 1 < f1) = false := decide_eq_false hd
          obtain ⟨m0, k0, k1, kf⟩ := id hT
          have HB := fun (a b : Int) => Lib.hid (show Below w.heap.size w (((wr.setCell ⟨w.heap.size, 0, none⟩ (.int .i64 a)).setCell ⟨w.heap.size, 1, none⟩ (.int .i64 b)).alloc (.cells #[.int .i64 f1, .int .i64 f2] 70)) from ((hbr.setCell (p := ⟨w.heap.size, 0, none⟩) (Nat.le_refl _) _).setCell (p := ⟨w.heap.size, 1, none⟩) (Nat.le_refl _) _).alloc (by simp; omega) _)
          have HT2 := fun (a b : Int) => Lib.hid (((hT.set0 a).set1 b).old (.cells #[.int .i64 f1, .int .i64 f2] 70))
          have HO2 := fun (a b : Int) => Lib.hid (show OwnSp (w.heap.size + 1) (((wr.setCell ⟨w.heap.size, 0, none⟩ (.int .i64 a)).setCell ⟨w.heap.size, 1, none⟩ (.int .i64 b)).alloc (.cells #[.int .i64 f1, .int .i64 f2] 70)) _ ys from OwnSl.kept (OwnSl.keepB HO.out (fun g _ g2 _ => (Below.heap_setCell _ _ _ _ (by simp only; omega)).trans (Below.heap_setCell _ _ _ _ (by simp only; omega)))) ((Below.refl _ _).alloc (Nat.le_refl _) _))
          by_cases q1 : f1 < v0 <;> by_cases q2 : v1 < f2
          all_goals
            go_wp2
            go_roundw
            case rel => exact ⟨k + 1, ys, pl, _, _, by omega, by go_num, rfl, HO2 _ _, Lib.hid (by have := HLp.out; split at this <;> simp_all <;> omega), HI, Lib.hid (by rw [HA.out, HXD.out, sadd_mid hc hd]; congr 2; simp only [Sp.mk.injEq]; omega), (HT2 _ _).out, by omega, by omega, by omega, (HB _ _).out⟩
            case measure => simp [intOf]; omega
    · have hkn : k = n := by omega
      subst hkn
      obtain ⟨m0, k0, k1, kf⟩ := id hT
      cases pl
      · go_wp2_with (at_builtin; refine wpList_append_own _ rfl _ _ 71 rfl (w.heap.size + 1) 70 i0 _ 2 16 Tryd.underlying71 hi hy0 hy1 hy2 rfl (by decide) _ _ _ rfl (World.ownsRow.alloc HO.out _) ⟨wr.heap.size, 0, none⟩ 1 1 (Sp.enc ⟨v0, v1⟩) rfl rfl (cellsNew wr (Sp.enc ⟨v0, v1⟩) _) ?c2 ?c3 ?c4 ?c5 ?_)
        case c2 => simp [Value.oneCell']
        case c3 => have := HL.out; simp only [maxLen]; omega
        case c4 => have := HL.out; omega
        case c5 => first | omega | (simp; omega)
        intro v5 w5 hown5 hgrow5 _
        have hB5 := belGrown (hbr.alloc (by omega) _) (World.ownsRow.alloc (OwnSl.mono HO.out (by omega : w.heap.size ≤ w.heap.size + 1)) _) hgrow5 (by simp; omega)
        have HO5 := Lib.hid (OwnSl.pushed rfl hown5)
        clear hown5 hgrow5
        go_wp2
        go_ret
        have he : sadd xs false ⟨s1, s2⟩ = ys ++ [⟨v0, v1⟩] := by rw [HA.out, List.drop_of_length_le (by rw [HN.out]; exact Nat.le_refl _)]; rfl
        rw [he]
        exact ⟨_, rfl, OwnSl.mono HO5.out (by omega), by have := HLp.out; simp at this ⊢; omega, HI.out.snoc g0 g1 g2, hB5⟩
      · go_wp2
        go_ret
        have he : sadd xs false ⟨s1, s2⟩ = ys := by rw [HA.out, List.drop_of_length_le (by rw [HN.out]; exact Nat.le_refl _)]; exact List.append_nil _
        rw [he]
        exact ⟨_, rfl, OwnSl.mono HO.out (by omega), by have := HLp.out; simp at this; omega, HI.out, hbr⟩
end Go.Proofs.YtajcogpfmpehkaaDoor
