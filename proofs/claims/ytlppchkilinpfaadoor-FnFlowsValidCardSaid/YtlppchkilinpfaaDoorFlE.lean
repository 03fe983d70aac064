/- Lists of flows: ExpireFlows. -/
import Derived.Test.YtlppchkilinpfaaDoorFlK
import Derived.Test.YtlppchkilinpfaaDoorOwn
namespace Go.Proofs.YtlppchkilinpfaaDoor
open Go.RowKit
def expire (xs : List Fl) (now : Int) : List Fl := if fvalid xs && inB now 0 1000000 then xs.filter (fun f => decide (now ≤ f.til)) else []
theorem infoFl : (Tryd.prog.info? 45).map (fun i => (i.zero, i.size, i.bytes)) = some (some (.agg #[.int .i64 0, .int .i64 0, .int .i64 0, .int .i64 0, .int .i64 0]), 5, 40) := by kernel_rfl
def OwnFl (base : Nat) (w : World) (v : Value) (ys : List Fl) : Prop := OwnSl base 45 5 Fl.enc w v ys
theorem OwnFl.fls {base : Nat} {w : World} {v : Value} {ys : List Fl} (h : OwnFl base w v ys) : Fls w v ys := OwnSl.at (sz := 5) (enc := Fl.enc) (fun _ => rfl) h
/-- What an answer that is a new slice of flows says. -/
def RetFls (ys : List Fl) (w : World) (e : Ending) (w' : World) : Prop := ∃ v, e = .returned v ∧ OwnFl w.heap.size w' v ys ∧ Below w.heap.size w w'
set_option maxHeartbeats 1000000 in
theorem specEF_any (xs : List Fl) (v : Value) (now : Int) (w : World) (hs : Fls w v xs) :
    Calls Tryd.prog 26 #[v, .int .i64 now] w (RetFls (expire xs now) w) := by
  obtain ⟨a, cap, rfl, hlc, hcm, -⟩ := id hs
  unfold maxLen at hcm
  go_enter Tryd.func26, Tryd.ntmps26
  go_wp2_with fail
  go_loopw [5, 6] (fun v i wr => ∃ k : Nat, k ≤ xs.length ∧ i = .int .i64 k ∧ OwnFl w.heap.size wr v ((xs.take k).filter (fun f => decide (now ≤ f.til))) ∧ (0 < k → (fvalid xs && inB now 0 1000000) = true) ∧ Below w.heap.size w wr) (fun _ i _ => xs.length - (intOf i).toNat)
  case atStart => exact ⟨0, by omega, rfl, by simpa using! World.ownsRow_made w #[] 0 (Nat.le_refl _) (by simp) (by simp), fun h => by omega, by (repeat' (first | with_reducible exact Below.refl _ _ | with_reducible assumption | with_reducible refine Below.setCell ?_ ?_ _ | with_reducible refine Below.alloc ?_ ?_ _ | with_reducible refine Below.drew ?_ | with_reducible refine belDrewN ?_ _ | with_reducible refine Below.trans ?_ (Below.mono (by assumption) ?_) | omega | (simp; omega) | (simp; done)))⟩
  case round =>
    obtain ⟨k, hk, rfl, hown, hval, hbr⟩ := hrel
    have HV := Lib.hid hval; clear hval
    have HO := Lib.hid hown; clear hown
    have hs2 := Lib.hid (hs.below hbr)
    have hzr := hbr.size
    by_cases hlt : k < xs.length
    · obtain ⟨b, o, f1, f2, f3, f4, t, rfl, hbl, hx, c0, c1, c2, c3, c4⟩ := hs2.out.at hlt
      have HX := Lib.hid hx; clear hx
      cases hfv0 : fvalid xs
      · have HK := Lib.hid (show k = 0 by rcases Nat.eq_zero_or_pos k with h | h; exact h; have := HV.out h; simp [hfv0] at this)
        have HFV := Lib.hid hfv0; clear hfv0
        go_wp2_with (first | (go_at_call 19; refine (specFV_b hs2.out HFV.out).mono ?_; rintro e w1 ⟨rfl, hb⟩; have hz := hb.size))
        go_ret
        refine ⟨_, rfl, ?_, hbr.trans (hb.mono (by omega))⟩
        have := OwnSl.kept HO.out hb
        rw [HK.out] at this
        simpa [expire, HFV.out] using! this
      · have HFV := Lib.hid hfv0; clear hfv0
        cases hu0 : inB now 0 1000000
        · have HK := Lib.hid (show k = 0 by rcases Nat.eq_zero_or_pos k with h | h; exact h; have := HV.out h; simp [hu0] at this)
          have HU := Lib.hid hu0; clear hu0
          go_wp2_with (first | (go_at_call 19; refine (specFV_b hs2.out HFV.out).mono ?_; rintro e w1 ⟨rfl, hb⟩; have hz := hb.size) | (go_at_call 37; refine (l1In_b HU.out _).mono ?_; rintro e w2 ⟨rfl, rfl⟩))
          go_ret
          refine ⟨_, rfl, ?_, hbr.trans (hb.mono (by omega))⟩
          have := OwnSl.kept HO.out hb
          rw [HK.out] at this
          simpa [expire, HU.out] using! this
        · have HT := Lib.hid (show (fvalid xs && inB now 0 1000000) = true by simp [HFV.out, hu0])
          have HU := Lib.hid hu0; clear hu0
          by_cases hn : now ≤ t
          · have HF := Lib.hid (show (xs.take (k + 1)).filter (fun f => decide (now ≤ f.til)) = (xs.take k).filter (fun f => decide (now ≤ f.til)) ++ [⟨⟨f1, f2, f3, f4⟩, t⟩] by rw [List.take_add_one, HX.out]; simp [hn])
            have hlen := List.length_filter_le (fun f : Fl => decide (now ≤ f.til)) (xs.take k)
            have hlen2 : (xs.take k).length ≤ k := List.length_take_le _ _
            obtain ⟨i0, hi, hz0, hz1, hz2⟩ := info_parts infoFl
            have h20 : xs.length ≤ 20 := ((fvalid_iff xs).1 HFV.out).1
            go_wp2_with (first | (go_at_call 19; refine (specFV_b hs2.out HFV.out).mono ?_; rintro e w1 ⟨rfl, hb⟩; have hz := hb.size; have kb := ownCells hb b (by omega)) | (go_at_call 37; refine (l1In_b HU.out _).mono ?_; rintro e w2 ⟨rfl, rfl⟩) | (at_builtin; refine wpList_append_own _ rfl _ _ 37 rfl w.heap.size 45 i0 _ 5 40 Tryd.underlying37 hi hz0 hz1 hz2 rfl (by decide) _ _ _ rfl (World.ownsRow.alloc (OwnSl.kept HO.out hb) _) ⟨w1.heap.size, 0, none⟩ 1 1 (Fl.enc ⟨⟨f1, f2, f3, f4⟩, t⟩) rfl rfl ?c1 ?c2 ?c3 ?c4 ?c5 ?_))
            case c1 => exact cellsNew w1 (Fl.enc ⟨⟨f1, f2, f3, f4⟩, t⟩) _
            case c2 => simp [Value.oneCell']
            case c3 => simp only [maxLen]; omega
            case c4 => omega
            case c5 => simp; omega
            · intro v' w3 hown3 hgrow3 _
              have hB := belGrown (hbr.trans ((hb.mono (by omega)).alloc (by omega) _)) (World.ownsRow.alloc (OwnSl.kept HO.out hb) _) hgrow3 (by simp; omega)
              have HO3 := Lib.hid (OwnSl.pushed rfl hown3)
              clear hown3 hgrow3
              go_wp2
              go_roundw
              case rel => exact ⟨k + 1, by omega, by go_num, by rw [HF.out]; exact HO3.out, fun _ => (by first | exact HT.out | rfl), hB⟩
              case measure => simp [intOf]; omega

          · have HF := Lib.hid (show (xs.take (k + 1)).filter (fun f => decide (now ≤ f.til)) = (xs.take k).filter (fun f => decide (now ≤ f.til)) by rw [List.take_add_one, HX.out]; simp; omega)
            go_wp2_with (first | (go_at_call 19; refine (specFV_b hs2.out HFV.out).mono ?_; rintro e w1 ⟨rfl, hb⟩; have hz := hb.size; have kb := ownCells hb b (by omega)) | (go_at_call 37; refine (l1In_b HU.out _).mono ?_; rintro e w2 ⟨rfl, rfl⟩))
            go_roundw
            case rel =>
              exact ⟨k + 1, by omega, by go_num, by rw [HF.out]; exact OwnSl.kept HO.out hb, fun _ => (by first | exact HT.out | rfl), hbr.trans (hb.mono (by omega))⟩
            case measure => simp [intOf]; omega
    · have HE := Lib.hid (show k = xs.length by omega)
      go_wp2
      go_ret
      refine ⟨_, rfl, ?_, hbr⟩
      have := HO.out
      rw [HE.out, List.take_length] at this
      rcases Nat.eq_zero_or_pos xs.length with h0 | h0
      · have hx0 := List.eq_nil_of_length_eq_zero h0
        subst hx0
        simpa [expire] using! this
      · have hv := HV.out (by rw [HE.out]; exact h0)
        simpa [expire, hv] using! this
end Go.Proofs.YtlppchkilinpfaaDoor
