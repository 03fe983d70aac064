/- TableDrop: the program's. -/
import Derived.Test.YtfnfpekjjmejnaaTbDl
namespace Go.Proofs.Ytfnfpekjjmejnaa
open Go.RowKit
theorem place_lt {p : Pf} : ∀ (xs : List En) (i : Nat) (x : En), i < place xs p → xs[i]? = some x → x.w.lt p = true
  | [], i, x, h, _ => by simp [place] at h
  | y :: ys, i, x, h, hx => by
    simp only [place] at h
    split at h
    · rename_i hy
      cases i with
      | zero => simp at hx; subst hx; exact hy
      | succ i => exact place_lt ys i x (by omega) (by simpa using hx)
    · omega
theorem place_ge {p : Pf} : ∀ (xs : List En) (x : En), xs[place xs p]? = some x → x.w.lt p = false
  | [], x, h => by simp at h
  | y :: ys, x, h => by
    simp only [place] at h
    split at h
    · exact place_ge ys x (by simpa using h)
    · rename_i hy
      simp at h; subst h; simpa using hy
theorem drop_found {xs : List En} (hv : tvalid xs = true) {p : Pf} (hf : foundAt xs p = true) : place xs p < xs.length ∧ tdrop xs p = xs.take (place xs p) ++ xs.drop (place xs p + 1) ∧ tdropB xs p = true := by
  have hg := ((tvalid_iff xs).1 hv).2
  simp only [foundAt, decide_eq_true_eq, Option.map_eq_some_iff] at hf
  obtain ⟨x, hx, hw⟩ := hf
  have hlt := (List.getElem?_eq_some_iff.1 hx).1
  have hxe := (List.getElem?_eq_some_iff.1 hx).2
  have key : tdropK xs p xs.length = xs.take (place xs p) ++ xs.drop (place xs p + 1) := by
    unfold tdropK
    rw [List.take_length]
    conv => lhs; rw [← List.take_append_drop (place xs p) xs, List.drop_eq_getElem_cons hlt, hxe]
    rw [List.filter_append, List.filter_cons]
    simp only [hw, decide_true, Bool.not_true, Bool.false_eq_true, if_false]
    rw [List.filter_eq_self.2, List.filter_eq_self.2]
    · intro y hy
      obtain ⟨i, hi, rfl⟩ := List.getElem_of_mem hy
      rw [List.length_drop] at hi
      have h2 : xs[place xs p + i + 1]? = some (xs.drop (place xs p + 1))[i] := by
        rw [List.getElem_drop, List.getElem?_eq_getElem (by omega)]
        congr 2; omega
      have := lt_ne (tgood_lt hg _ i _ _ hx h2)
      rw [hw] at this
      have h3 : (xs.drop (place xs p + 1))[i].w ≠ p := fun e => this e.symm
      simpa using h3
    · intro y hy
      obtain ⟨i, hi, rfl⟩ := List.getElem_of_mem hy
      rw [List.length_take] at hi
      have h2 : xs[i]? = some (xs.take (place xs p))[i] := by
        rw [List.getElem_take, List.getElem?_eq_getElem (by omega)]
      simpa using lt_ne (place_lt xs i _ (by omega) h2)
  refine ⟨hlt, by rw [tdrop, if_pos hv, key], ?_⟩
  rw [tdropB, if_pos hv, key]
  simp; omega
theorem drop_none {xs : List En} (hv : tvalid xs = true) {p : Pf} (hf : foundAt xs p = false) : tdrop xs p = xs ∧ tdropB xs p = false := by
  have hg := ((tvalid_iff xs).1 hv).2
  simp only [foundAt, decide_eq_false_iff_not] at hf
  have key : tdropK xs p xs.length = xs := by
    unfold tdropK
    rw [List.take_length]
    refine List.filter_eq_self.2 (fun y hy => ?_)
    obtain ⟨i, hi, rfl⟩ := List.getElem_of_mem hy
    have hy := List.getElem?_eq_getElem hi
    suffices xs[i].w ≠ p by simpa using this
    intro e
    rcases Nat.lt_trichotomy i (place xs p) with h | h | h
    · exact lt_ne (place_lt xs i _ h hy) e
    · rw [← h, hy] at hf
      exact hf (by simp [e])
    · have hk := List.getElem?_eq_getElem (show place xs p < xs.length by omega)
      have h1 := place_ge xs _ hk
      have h2 := tgood_lt hg _ (i - place xs p - 1) _ _ hk (by rw [show place xs p + (i - place xs p - 1) + 1 = i by omega]; exact hy)
      rw [e, h1] at h2
      cases h2
  exact ⟨by rw [tdrop, if_pos hv, key], by rw [tdropB, if_pos hv, key]; simp⟩
set_option maxHeartbeats 2000000 in
theorem implTD_any (xs : List En) (v : Value) (p1 p2 : Int) (w : World) (hs : Ens w v xs) :
    Calls Try.prog 26 #[v, .agg #[.int .i64 p1, .int .i64 p2]] w (RetEnB (tdrop xs ⟨p1, p2⟩) (tdropB xs ⟨p1, p2⟩) w) := by
  have hal : Below w.heap.size w (w.alloc (.cells #[.int .i64 p1, .int .i64 p2] 33)) := (Below.refl _ _).alloc (Nat.le_refl _) _
  cases hv : tvalid xs
  · rw [show tdrop xs ⟨p1, p2⟩ = [] by simp [tdrop, hv], show tdropB xs ⟨p1, p2⟩ = false by simp [tdropB, hv]]
    go_enter Try.func26, Try.ntmps26
    go_wp2_with fail
    refine (implTV_b (hs.below hal) hv).mono ?_
    rintro e w1 ⟨rfl, hb1⟩
    have hw1 : Below w.heap.size w w1 := hal.trans (hb1.mono (by simp))
    clear hb1 hal
    go_wp2
    go_ret2
    exact ⟨_, rfl, OwnEn.nil, hw1⟩
  · have h30 := ((tvalid_iff xs).1 hv).1
    have HD1 := drop_found hv (p := ⟨p1, p2⟩)
    have HD2 := drop_none hv (p := ⟨p1, p2⟩)
    obtain ⟨k, hk⟩ : ∃ k, place xs ⟨p1, p2⟩ = k := ⟨_, rfl⟩
    obtain ⟨f, hf⟩ : ∃ f, foundAt xs ⟨p1, p2⟩ = f := ⟨_, rfl⟩
    rw [hk] at HD1
    rw [hf] at HD1 HD2
    have H1 := Lib.hid HD1
    have H2 := Lib.hid HD2
    clear HD1 HD2
    go_enter Try.func26, Try.ntmps26
    go_wp2_with fail
    refine (implTV_b (hs.below hal) hv).mono ?_
    rintro e w1 ⟨rfl, hb1⟩
    have hw1 : Below w.heap.size w w1 := hal.trans (hb1.mono (by simp))
    have q0 : w1.cell? ⟨w.heap.size, 0, none⟩ = some (.int .i64 p1) := (hb1.cell (by simp)).trans (by simp)
    have q1 : w1.cell? ⟨w.heap.size, 1, none⟩ = some (.int .i64 p2) := (hb1.cell (by simp)).trans (by simp)
    have qs : w.heap.size < w1.heap.size := by have := hb1.size; simp at this; omega
    clear hb1 hal
    go_wp2_with fail
    refine (clone_any xs _ _ (hs.below hw1) (by omega)).mono ?_
    rintro e w2 ⟨v2, rfl, ho2, hb2⟩
    have hw2 : Below w.heap.size w w2 := hw1.trans (hb2.mono hw1.size)
    have e0 := (hb2.cell (p := ⟨w.heap.size, 0, none⟩) qs).trans q0
    have e1 := (hb2.cell (p := ⟨w.heap.size, 1, none⟩) qs).trans q1
    have HO2 := Lib.hid (OwnSl.mono (base' := w.heap.size) ho2 (by omega))
    clear ho2 hb2 q0 q1
    go_wp2_with fail
    refine (entryPlace_any xs _ p1 p2 _ (OwnEn.ens HO2.out) hv).mono ?_
    rw [hk, hf]
    rintro e w3 ⟨rfl, hb3⟩
    have hw3 : Below w.heap.size w w3 := hw2.trans (hb3.mono hw2.size)
    have HO3 := Lib.hid (OwnSl.kept HO2.out hb3)
    clear hb3 e0 e1 HO2
    cases f
    · obtain ⟨h1, h2⟩ := H2.out rfl
      have K1 := Lib.hid h1
      have K2 := Lib.hid h2
      clear hk hf H1 H2 h1 h2
      go_wp2
      go_ret2
      exact ⟨v2, by rw [K2.out]; rfl, by rw [K1.out]; exact HO3.out, hw3⟩
    · obtain ⟨h0, h1, h2⟩ := H1.out rfl
      have K1 := Lib.hid h1
      have K2 := Lib.hid h2
      clear hk hf H1 H2 h1 h2
      rcases OwnSl.form HO3.out with ⟨_, hx⟩ | ⟨g, cp, rfl, -, -, -, -, -⟩
      · rw [hx] at h0; simp at h0
      · generalize hn : xs.length = n at *
        have hd := delete_any (base := w.heap.size) xs g n cp k (k + 1) w3 hn HO3.out h0 rfl hw3.size
        rw [show ((k + 1 : Nat) : Int) = (k : Int) + 1 by simp] at hd
        have HD := Lib.hid hd
        clear hd hn
        go_wp2_with fail
        refine HD.out.mono ?_
        rintro e w4 ⟨v4, rfl, ho4, hb4⟩
        have HO4 := Lib.hid ho4
        have hw4 : Below w.heap.size w w4 := hw3.trans hb4
        clear ho4 hb4
        go_wp2
        go_ret2
        exact ⟨v4, by rw [K2.out]; rfl, by rw [K1.out]; exact HO4.out, hw4⟩
end Go.Proofs.Ytfnfpekjjmejnaa
