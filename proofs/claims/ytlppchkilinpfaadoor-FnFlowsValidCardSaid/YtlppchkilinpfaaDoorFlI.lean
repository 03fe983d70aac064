/- Lists of flows: the program's index of them. -/
import Derived.Test.YtlppchkilinpfaaDoorFlE
import Derived.Test.YtlppchkilinpfaaDoorPkMap
namespace Go.Proofs.YtlppchkilinpfaaDoor
open Go.RowKit
theorem grownCells {w w' : World} {bm : Nat} (hg : w.grownBy w' (some bm)) (b : Nat) (h : b < w.heap.size) (hne : b ≠ bm) : ∀ o, w'.cell? ⟨b, o, none⟩ = w.cell? ⟨b, o, none⟩ :=
  fun o => World.cell?_of_block (a := ⟨b, o, none⟩) (hg.block b h (by simpa using hne))
theorem belPut {base bm : Nat} {w w0 w' : World} (hb : Below base w w0) (hg : w0.grownBy w' (some bm)) (hB : base ≤ w0.heap.size) (hm : base ≤ bm) : Below base w w' :=
  hb.grown hg hB (fun k hk => by cases hk; exact hm)
theorem MapIs.alloc {w : World} {b : Nat} {L : List (Pk × Nat)} (h : MapIs w b L) (o : Obj) : MapIs (w.alloc o) b L :=
  h.below ((Below.refl _ _).alloc (Nat.le_refl _) _)
/-- What the index of the first k flows says. -/
def Ix (xs : List Fl) (k : Nat) (L : List (Pk × Nat)) : Prop :=
  (∀ q n, look L q = some n → n < k ∧ ∃ x, xs[n]? = some x ∧ (q = x.who ∨ q = x.who.rev)) ∧
  (∀ n x, n < k → xs[n]? = some x → look L x.who ≠ none ∧ look L x.who.rev ≠ none)
theorem rev_rev (p : Pk) : p.rev.rev = p := rfl
theorem revv_ok {p : Pk} (h : p.ok = true) : p.revv = p.rev := by simp [Pk.revv, h]
theorem Ix.zero (xs : List Fl) : Ix xs 0 [] := ⟨fun q n h => by simp [look] at h, fun n x h => by omega⟩
theorem Ix.step {xs : List Fl} {k : Nat} {L L1 L2 : List (Pk × Nat)} (h : Ix xs k L) {x : Fl} (hx : xs[k]? = some x) (h1 : ∀ q, look L1 q = if q = x.who then some k else look L q) (h2 : ∀ q, look L2 q = if q = x.who.rev then some k else look L1 q) : Ix xs (k + 1) L2 := by
  refine ⟨fun q n hq => ?_, fun n y hn hy => ?_⟩
  · rw [h2, h1] at hq
    split at hq
    · rename_i e
      cases hq
      exact ⟨by omega, x, hx, Or.inr e⟩
    · split at hq
      · rename_i e
        cases hq
        exact ⟨by omega, x, hx, Or.inl e⟩
      · obtain ⟨a, b⟩ := h.1 q n hq
        exact ⟨by omega, b⟩
  · simp only [h2, h1]
    rcases (by omega : n < k ∨ n = k) with hn | rfl
    · obtain ⟨a, b⟩ := h.2 n y hn hy
      constructor
      · split; simp; split; simp; exact a
      · split; simp; split; simp; exact b
    · rw [hx] at hy
      cases hy
      constructor
      · split <;> simp
      · simp
theorem Ix.taken {xs : List Fl} {k : Nat} {L : List (Pk × Nat)} (h : Ix xs k L) {x : Fl} (hx : xs[k]? = some x) (hok : x.who.ok = true) {n : Nat} (hl : look L x.who = some n) : fvalid xs = false := by
  obtain ⟨hn, y, hy, e⟩ := h.1 _ _ hl
  refine fvalid_bad hx (Or.inr ⟨n, y, hn, hy, ?_⟩)
  unfold sameP
  rcases e with e | e
  · simp [e]
  · rw [revv_ok hok, e]; simp [rev_rev]
theorem Ix.free {xs : List Fl} {k : Nat} {L : List (Pk × Nat)} (h : Ix xs k L) {x : Fl} (hok : x.who.ok = true) (hl : look L x.who = none) : ∀ j y, j < k → xs[j]? = some y → sameP y.who x.who = false := by
  intro j y hj hy
  obtain ⟨a, b⟩ := h.2 j y hj hy
  unfold sameP
  rw [revv_ok hok]
  have e1 : y.who ≠ x.who := fun e => a (by rw [e]; exact hl)
  have e2 : y.who ≠ x.who.rev := fun e => b (by rw [e, rev_rev]; exact hl)
  simp [e1, e2]
def RetIx (xs : List Fl) (w : World) (e : Ending) (w' : World) : Prop :=
  Below w.heap.size w w' ∧ ((fvalid xs = false ∧ e = .returned (.tuple #[.map none, .bool false])) ∨
    (fvalid xs = true ∧ ∃ bm L, e = .returned (.tuple #[.map (some bm), .bool true]) ∧ MapIs w' bm L ∧ Ix xs xs.length L))
theorem RetIx.bad {xs : List Fl} {w w' : World} {e : Ending} (h : fvalid xs = false) (he : e = .returned (.tuple #[.map none, .bool false])) (hb : Below w.heap.size w w') : RetIx xs w e w' := ⟨hb, Or.inl ⟨h, he⟩⟩
set_option maxHeartbeats 400000 in
theorem timeValid_any (n : Int) (w : World) : Calls Tryd.prog 43 #[.int .i64 n] w fun e w' => e = .returned (.bool (inB n 0 1000000)) ∧ w = w' := by
  go_enter Tryd.func43, Tryd.ntmps43
  go_wp2
  · go_ret
    exact ⟨ret_bool (by simp [inB, *]), rfl⟩
  · go_ret
    exact ⟨ret_bool (by simp [inB]; omega), rfl⟩
theorem timeValid_b {n : Int} {r : Bool} (h : inB n 0 1000000 = r) (w : World) : Calls Tryd.prog 43 #[.int .i64 n] w fun e w' => e = .returned (.bool r) ∧ w = w' := by
  subst h
  exact timeValid_any n w
set_option maxHeartbeats 1000000 in
theorem index_any (xs : List Fl) (v : Value) (w : World) (hs : Fls w v xs) (ht : Tab w) : Calls Tryd.prog 41 #[v] w (RetIx xs w) := by
  obtain ⟨a, cap, rfl, hlc, hcm, -⟩ := id hs
  unfold maxLen at hcm
  have hmm := @run_makeMap Tryd.prog
  by_cases h20 : 20 < xs.length
  · have HF := Lib.hid (show fvalid xs = false by unfold fvalid; simp; intro h; omega)
    go_enter Tryd.func41, Tryd.ntmps41
    go_wp2
    go_ret2
    exact RetIx.bad HF.out rfl (by (repeat' (first | with_reducible exact Below.refl _ _ | with_reducible assumption | with_reducible refine Below.setCell ?_ ?_ _ | with_reducible refine Below.alloc ?_ ?_ _ | with_reducible refine Below.drew ?_ | with_reducible refine belDrewN ?_ _ | with_reducible refine Below.trans ?_ (Below.mono (by assumption) ?_) | omega | (simp; omega) | (simp; done))))
  go_enter Tryd.func41, Tryd.ntmps41
  go_wp2_with fail
  go_loopw [15] (fun i wr => ∃ k L, k ≤ xs.length ∧ i = .int .i64 (k : Nat) ∧ MapIs wr w.heap.size L ∧ Ix xs k L ∧ FGood xs k ∧ Below w.heap.size w wr) (fun i _ => xs.length - (intOf i).toNat)
  case atStart => exact ⟨0, [], by omega, rfl, MapIs.made w, Ix.zero xs, fun i x hi => by omega, by (repeat' (first | with_reducible exact Below.refl _ _ | with_reducible assumption | with_reducible refine Below.setCell ?_ ?_ _ | with_reducible refine Below.alloc ?_ ?_ _ | with_reducible refine Below.drew ?_ | with_reducible refine belDrewN ?_ _ | with_reducible refine Below.trans ?_ (Below.mono (by assumption) ?_) | omega | (simp; omega) | (simp; done)))⟩
  case round =>
    obtain ⟨k, L, hk, rfl, hm, hix, hg, hbr⟩ := hrel
    have HM := Lib.hid hm; clear hm
    have HI := Lib.hid hix; clear hix
    have HG := Lib.hid hg; clear hg
    have hs2 := Lib.hid (hs.below hbr)
    have ht2 := Lib.hid (ht.below hbr)
    have hzr := hbr.size
    have hzm := HM.out.lt
    by_cases hlt : k < xs.length
    · obtain ⟨b, o, f1, f2, f3, f4, t, rfl, hbl, hx, c0, c1, c2, c3, c4⟩ := hs2.out.at hlt
      have HX := Lib.hid hx; clear hx
      cases hp0 : Pk.ok ⟨f1, f2, f3, f4⟩
      · have HP := Lib.hid hp0; clear hp0
        go_wp2_with (first | (go_at_call 33; refine (pv_b HP.out (ht2.out.below (by (repeat' (first | with_reducible exact Below.refl _ _ | with_reducible assumption | with_reducible refine Below.setCell ?_ ?_ _ | with_reducible refine Below.alloc ?_ ?_ _ | with_reducible refine Below.drew ?_ | with_reducible refine belDrewN ?_ _ | with_reducible refine Below.trans ?_ (Below.mono (by assumption) ?_) | omega | (simp; omega) | (simp; done)))))).mono ?_; rintro e w1 ⟨rfl, hb⟩))
        go_ret2
        exact RetIx.bad (fvalid_bad HX.out (Or.inl (by simp [fok, HP.out]))) rfl (by (repeat' (first | with_reducible exact Below.refl _ _ | with_reducible assumption | with_reducible refine Below.setCell ?_ ?_ _ | with_reducible refine Below.alloc ?_ ?_ _ | with_reducible refine Below.drew ?_ | with_reducible refine belDrewN ?_ _ | with_reducible refine Below.trans ?_ (Below.mono (by assumption) ?_) | omega | (simp; omega) | (simp; done))))
      · have HP := Lib.hid hp0; clear hp0
        go_wp2_with fail
        refine (pv_b HP.out (ht2.out.below (by (repeat' (first | with_reducible exact Below.refl _ _ | with_reducible assumption | with_reducible refine Below.setCell ?_ ?_ _ | with_reducible refine Below.alloc ?_ ?_ _ | with_reducible refine Below.drew ?_ | with_reducible refine belDrewN ?_ _ | with_reducible refine Below.trans ?_ (Below.mono (by assumption) ?_) | omega | (simp; omega) | (simp; done)))))).mono ?_
        rintro e w1 ⟨rfl, hb⟩
        have hz1 := hb.size
        simp at hz1
        have kb := ownCells hb wr.heap.size (by simp)
        have hb1 : Below wr.heap.size wr w1 := ((Below.refl _ _).alloc (Nat.le_refl _) _).trans (hb.mono (by simp))
        simp at kb
        have kb0 := kb 0; have kb1 := kb 1; have kb2 := kb 2; have kb3 := kb 3; have kb4 := kb 4
        simp at kb0 kb1 kb2 kb3 kb4
        clear kb hb
        cases hu0 : inB t 0 1000000
        · have HU := Lib.hid hu0; clear hu0
          go_wp2_with (first | (go_at_call 43; refine (timeValid_b HU.out _).mono ?_; rintro e w2 ⟨rfl, rfl⟩))
          go_ret2
          exact RetIx.bad (fvalid_bad HX.out (Or.inl (by simp [fok, HU.out]))) rfl (by (repeat' (first | with_reducible exact Below.refl _ _ | with_reducible assumption | with_reducible refine Below.setCell ?_ ?_ _ | with_reducible refine Below.alloc ?_ ?_ _ | with_reducible refine Below.drew ?_ | with_reducible refine belDrewN ?_ _ | with_reducible refine Below.trans ?_ (Below.mono (by assumption) ?_) | omega | (simp; omega) | (simp; done))))
        · have HU := Lib.hid hu0; clear hu0
          have HK := Lib.hid (show fok ⟨⟨f1, f2, f3, f4⟩, t⟩ = true by simp [fok, HP.out, HU.out])
          have hm1 := Lib.hid (HM.out.below hb1)
          have hlk := run_lookPk w1 w.heap.size L hm1.out f1 f2 f3 f4
          cases hl0 : look L ⟨f1, f2, f3, f4⟩ with
          | some m =>
            have HLM := Lib.hid hl0
            rw [hl0] at hlk
            clear hl0
            go_wp2_with (first | (go_at_call 43; refine (timeValid_b HU.out _).mono ?_; rintro e w2 ⟨rfl, rfl⟩))
            go_ret2
            exact RetIx.bad (HI.out.taken HX.out HP.out HLM.out) rfl (by (repeat' (first | with_reducible exact Below.refl _ _ | with_reducible assumption | with_reducible refine Below.setCell ?_ ?_ _ | with_reducible refine Below.alloc ?_ ?_ _ | with_reducible refine Below.drew ?_ | with_reducible refine belDrewN ?_ _ | with_reducible refine Below.trans ?_ (Below.mono (by assumption) ?_) | omega | (simp; omega) | (simp; done))))
          | none =>
            have HLM := Lib.hid hl0
            rw [hl0] at hlk
            clear hl0
            go_wp2_with (first | (go_at_call 43; refine (timeValid_b HU.out _).mono ?_; rintro e w2 ⟨rfl, rfl⟩) | (at_mapUpdate; with_reducible refine wpList_putPk rfl _ _ _ rfl w.heap.size L hm1.out f1 f2 f3 f4 k rfl rfl rfl ?_))
            intro w3 L3 hm3 hg3 hl3
            have HM3 := Lib.hid hm3; clear hm3
            have HL3 := Lib.hid hl3; clear hl3
            have kc := grownCells hg3 wr.heap.size (by omega) (by omega)
            have kc0 := kc 0; have kc1 := kc 1; have kc2 := kc 2; have kc3 := kc 3
            rw [kb0] at kc0; rw [kb1] at kc1; rw [kb2] at kc2; rw [kb3] at kc3
            clear kc kb0 kb1 kb2 kb3 kb4
            have hz3 := hg3.size
            have hb3 : Below w.heap.size w w3 := belPut (hbr.trans (hb1.mono (by omega))) hg3 (by omega) (Nat.le_refl _)
            clear hg3
            go_wp2_with fail
            refine (rev_any _ _ _ _ _).mono ?_
            rintro e w4 ⟨rfl, hb4⟩
            have hz4 := hb4.size
            have hm4 := Lib.hid (HM3.out.below hb4)
            have hb5 : Below w.heap.size w w4 := hb3.trans (hb4.mono (by omega))
            clear hb4
            go_wp2_with (first | (at_mapUpdate; with_reducible refine wpList_putPk rfl _ _ _ rfl w.heap.size L3 hm4.out f2 f1 f3 f4 k rfl rfl rfl ?_))
            intro w5 L5 hm5 hg5 hl5
            have HM5 := Lib.hid hm5; clear hm5
            have HL5 := Lib.hid hl5; clear hl5
            have hb6 : Below w.heap.size w w5 := belPut hb5 hg5 (by omega) (Nat.le_refl _)
            clear hg5
            go_wp2
            go_roundw
            case rel =>
              refine ⟨k + 1, L5, by omega, by go_num, HM5.out, HI.out.step HX.out HL3.out HL5.out, fun i x hi hx => ?_, hb6⟩
              rcases (by omega : i < k ∨ i = k) with hm | rfl
              · exact HG.out i x hm hx
              · rw [HX.out] at hx
                cases hx
                exact ⟨HK.out, HI.out.free HP.out HLM.out⟩
            case measure => simp [intOf]; omega
    · have HE := Lib.hid (show k = xs.length by omega)
      go_wp2
      go_ret2
      refine ⟨hbr, Or.inr ⟨(fvalid_iff xs).2 ⟨by omega, HE.out ▸ HG.out⟩, _, _, rfl, HM.out, HE.out ▸ HI.out⟩⟩
end Go.Proofs.YtlppchkilinpfaaDoor
