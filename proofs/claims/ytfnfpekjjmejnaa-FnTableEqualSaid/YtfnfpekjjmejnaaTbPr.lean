/- TablePut: the program's. -/
import Derived.Test.YtfnfpekjjmejnaaTbIn
import Derived.Test.YtfnfpekjjmejnaaTbDr
namespace Go.Proofs.Ytfnfpekjjmejnaa
open Go.RowKit
theorem put_found {xs : List En} {e : En} (hv : tvalid xs = true) (he : e.ok = true) (hf : foundAt xs e.w = true) : place xs e.w < xs.length ∧ tput xs e = (xs.set (place xs e.w) e, true) := by
  simp only [foundAt, decide_eq_true_eq] at hf
  obtain ⟨x, hx, hw⟩ := Option.map_eq_some_iff.1 hf
  refine ⟨(List.getElem?_eq_some_iff.1 hx).1, ?_⟩
  simp only [tput, hv, he, Bool.and_self, if_true, if_pos hf]
theorem put_new {xs : List En} {e : En} (hv : tvalid xs = true) (he : e.ok = true) (hf : foundAt xs e.w = false) : tput xs e = if xs.length = 30 then (xs, false) else (xs.take (place xs e.w) ++ [e] ++ xs.drop (place xs e.w), true) := by
  simp only [foundAt, decide_eq_false_iff_not] at hf
  simp only [tput, hv, he, Bool.and_self, if_true, if_neg hf]
theorem shape_new (w : World) (cs : Array Value) (ty : TypeId) : (w.alloc (.cells cs ty)).shape? w.heap.size = some (ty, cs.size) := by
  simp only [World.shape?, heap_alloc_new w (.cells cs ty)]
set_option maxHeartbeats 4000000 in
theorem implTP_any (xs : List En) (v : Value) (p1 p2 p3 : Int) (w : World) (hs : Ens w v xs) :
    Calls Try.prog 39 #[v, .agg #[.int .i64 p1, .int .i64 p2, .int .i64 p3]] w (RetEnB (tput xs ⟨⟨p1, p2⟩, p3⟩).1 (tput xs ⟨⟨p1, p2⟩, p3⟩).2 w) := by
  have hal : Below w.heap.size w (w.alloc (.cells #[.int .i64 p1, .int .i64 p2, .int .i64 p3] 35)) := (Below.refl _ _).alloc (Nat.le_refl _) _
  cases hv : tvalid xs
  · rw [show tput xs ⟨⟨p1, p2⟩, p3⟩ = ([], false) by simp [tput, hv]]
    go_enter Try.func39, Try.ntmps39
    go_wp2_with fail
    refine (implTV_b (hs.below hal) hv).mono ?_
    rintro e w1 ⟨rfl, hb1⟩
    have hw1 : Below w.heap.size w w1 := hal.trans (hb1.mono (by simp))
    clear hb1 hal
    go_wp2
    go_ret2
    exact ⟨_, rfl, OwnEn.nil, hw1⟩
  · have h30 := ((tvalid_iff xs).1 hv).1
    cases he : En.ok ⟨⟨p1, p2⟩, p3⟩
    · rw [show tput xs ⟨⟨p1, p2⟩, p3⟩ = ([], false) by simp [tput, he]]
      go_enter Try.func39, Try.ntmps39
      go_wp2_with fail
      refine (implTV_b (hs.below hal) hv).mono ?_
      rintro e w1 ⟨rfl, hb1⟩
      have hw1 : Below w.heap.size w w1 := hal.trans (hb1.mono (by simp))
      have q0 : w1.cell? ⟨w.heap.size, 0, none⟩ = some (.int .i64 p1) := (hb1.cell (by simp)).trans (by simp)
      have q1 : w1.cell? ⟨w.heap.size, 1, none⟩ = some (.int .i64 p2) := (hb1.cell (by simp)).trans (by simp)
      have q2 : w1.cell? ⟨w.heap.size, 2, none⟩ = some (.int .i64 p3) := (hb1.cell (by simp)).trans (by simp)
      clear hb1 hal
      go_wp2_with fail
      refine (entryValid_b he _).mono ?_
      rintro e w2 ⟨rfl, hb2⟩
      have hw2 : Below w.heap.size w w2 := hw1.trans (hb2.mono hw1.size)
      clear hb2
      go_wp2
      go_ret2
      exact ⟨_, rfl, OwnEn.nil, hw2⟩
    · have HD1 := put_found hv he
      have HD2 := put_new hv he
      obtain ⟨res, hres⟩ : ∃ res, tput xs ⟨⟨p1, p2⟩, p3⟩ = res := ⟨_, rfl⟩
      obtain ⟨k, hk⟩ : ∃ k, place xs ⟨p1, p2⟩ = k := ⟨_, rfl⟩
      have hkl : k ≤ xs.length := by rw [← hk]; exact place_le _ _
      obtain ⟨f, hf⟩ : ∃ f, foundAt xs ⟨p1, p2⟩ = f := ⟨_, rfl⟩
      rw [hf, hk, hres] at HD1 HD2
      rw [hres]
      have H1 := Lib.hid HD1
      have H2 := Lib.hid HD2
      clear HD1 HD2 hres
      go_enter Try.func39, Try.ntmps39
      go_wp2_with fail
      refine (implTV_b (hs.below hal) hv).mono ?_
      rintro e w1 ⟨rfl, hb1⟩
      have hw1 : Below w.heap.size w w1 := hal.trans (hb1.mono (by simp))
      have q0 : w1.cell? ⟨w.heap.size, 0, none⟩ = some (.int .i64 p1) := (hb1.cell (by simp)).trans (by simp)
      have q1 : w1.cell? ⟨w.heap.size, 1, none⟩ = some (.int .i64 p2) := (hb1.cell (by simp)).trans (by simp)
      have q2 : w1.cell? ⟨w.heap.size, 2, none⟩ = some (.int .i64 p3) := (hb1.cell (by simp)).trans (by simp)
      have qs : w.heap.size < w1.heap.size := by have := hb1.size; simp at this; omega
      clear hb1 hal
      go_wp2_with fail
      refine (entryValid_b he _).mono ?_
      rintro e w2 ⟨rfl, hb2⟩
      have hw2 : Below w.heap.size w w2 := hw1.trans (hb2.mono hw1.size)
      have e0 := (hb2.cell (p := ⟨w.heap.size, 0, none⟩) qs).trans q0
      have e1 := (hb2.cell (p := ⟨w.heap.size, 1, none⟩) qs).trans q1
      have e2 := (hb2.cell (p := ⟨w.heap.size, 2, none⟩) qs).trans q2
      have qs2 : w.heap.size < w2.heap.size := Nat.lt_of_lt_of_le qs hb2.size
      clear hb2 q0 q1 q2
      go_wp2_with fail
      refine (clone_any xs _ _ (hs.below hw2) (by omega)).mono ?_
      rintro e w3 ⟨v3, rfl, ho3, hb3⟩
      have hw3 : Below w.heap.size w w3 := hw2.trans (hb3.mono hw2.size)
      have d0 := (hb3.cell (p := ⟨w.heap.size, 0, none⟩) qs2).trans e0
      have d1 := (hb3.cell (p := ⟨w.heap.size, 1, none⟩) qs2).trans e1
      have d2 := (hb3.cell (p := ⟨w.heap.size, 2, none⟩) qs2).trans e2
      have qs3 : w.heap.size < w3.heap.size := Nat.lt_of_lt_of_le qs2 hb3.size
      have HO3 := Lib.hid (OwnSl.mono (base' := w.heap.size + 1) ho3 (by omega))
      clear ho3 hb3 e0 e1 e2
      go_wp2_with fail
      refine (entryPlace_any xs _ p1 p2 _ (OwnEn.ens HO3.out) hv).mono ?_
      rw [hk, hf]
      rintro e w4 ⟨rfl, hb4⟩
      have hw4 : Below w.heap.size w w4 := hw3.trans (hb4.mono hw3.size)
      have e0 := (hb4.cell (p := ⟨w.heap.size, 0, none⟩) qs3).trans d0
      have e1 := (hb4.cell (p := ⟨w.heap.size, 1, none⟩) qs3).trans d1
      have e2 := (hb4.cell (p := ⟨w.heap.size, 2, none⟩) qs3).trans d2
      have qs4 : w.heap.size < w4.heap.size := Nat.lt_of_lt_of_le qs3 hb4.size
      have HO4 := Lib.hid (OwnSl.kept HO3.out hb4)
      clear hb4 d0 d1 d2 HO3
      cases f
      · have h2 := H2.out rfl
        by_cases h30' : xs.length = 30
        · rw [if_pos h30'] at h2
          subst h2
          obtain ⟨sa, cp, rfl, hlc, hcm, -⟩ := OwnEn.ens HO4.out
          have g30 : ((xs.length : Int) == 30) = true := by simpa using (by omega : (xs.length : Int) = 30)
          clear hk hf H1 H2 h30'
          go_wp2
          go_ret2
          exact ⟨_, rfl, OwnSl.mono HO4.out (by omega), hw4⟩
        · rw [if_neg h30'] at h2
          subst h2
          obtain ⟨sa, cp, hv3, hlc, hcm, -⟩ := OwnEn.ens HO4.out
          have g30 : ((xs.length : Int) == 30) = false := by simpa using (by omega : (xs.length : Int) ≠ 30)
          have hi := insert_any (base := w.heap.size + 1) xs ⟨⟨p1, p2⟩, p3⟩ v3 k w4.heap.size (w4.alloc (.cells #[.int .i64 p1, .int .i64 p2, .int .i64 p3] 35)) (OwnSl.kept HO4.out ((Below.refl _ _).alloc (Nat.le_refl _) _)) hkl (by omega)
            (fun j c hj => by have := cellsNew w4 (En.enc ⟨⟨p1, p2⟩, p3⟩) 35 j c hj; rwa [Addr.add_lit] at this) (shape_new _ _ _) (fun j => frz_new' _ _ _ _)
            (fun hh => by have := World.ownsRow.lt HO4.out _ hh; omega) (by simp; omega)
          subst hv3
          have HD := Lib.hid hi
          clear hk hf H1 H2 h30' hi
          go_wp2_with fail
          refine HD.out.mono ?_
          rintro e w5 ⟨v5, rfl, ho5, hb5⟩
          have HO5 := Lib.hid ho5
          have hw5 : Below w.heap.size w w5 := (hw4.alloc hw4.size _).trans (hb5.mono (by omega))
          clear ho5 hb5
          go_wp2
          go_ret2
          exact ⟨v5, rfl, OwnSl.mono HO5.out (by omega), hw5⟩
      · obtain ⟨h0, h1⟩ := H1.out rfl
        subst h1
        rcases OwnSl.form HO4.out with ⟨_, hx⟩ | ⟨g, cp, rfl, hg1, hg2, -, hcm, -⟩
        · rw [hx] at h0; simp at h0
        · generalize hn : xs.length = n at *
          have hst := OwnSl.store (sz := 3) (enc := En.enc) (fun _ => rfl) hn.symm HO4.out (show k < xs.length by omega) ⟨⟨p1, p2⟩, p3⟩
          have hfz := OwnSl.frz HO4.out
          obtain ⟨y, hy⟩ : ∃ y, xs[k]? = some y := ⟨_, List.getElem?_eq_getElem (by omega)⟩
          have hcz := OwnSl.cell (sz := 3) (enc := En.enc) (fun _ => rfl) HO4.out hy
          have y0 := hcz 0 _ rfl; have y1 := hcz 1 _ rfl; have y2 := hcz 2 _ rfl
          have hB := belGrown hw4 (OwnSl.mono (base' := w.heap.size) HO4.out (by omega)) hst.2 (by omega)
          have HST := Lib.hid (OwnSl.mono (base' := w.heap.size) hst.1 (by omega))
          simp only [wSet, Nat.add_assoc, Nat.reduceAdd] at HST hB
          simp only [Nat.add_zero] at y0
          have HB := Lib.hid hB
          have hne : w.heap.size ≠ g := by omega
          clear hst hB hcz hy hk hf H1 H2 HO4 hs hv he h30
          go_wp2
          go_ret2
          exact ⟨_, rfl, HST.out, HB.out⟩
end Go.Proofs.Ytfnfpekjjmejnaa
