/- Lists of flows: the reference's TrackFlow, for drawn flows: some list of the call's own. -/
import Derived.Test.YtlppchkilinpfaaDoorFlE
import Derived.Test.YtlppchkilinpfaaDoorSetAll
namespace Go.Proofs.YtlppchkilinpfaaDoor
open Go.RowKit
theorem set_flatMap {α : Type} {sz : Nat} {enc : α → List Value} (henc : ∀ x, (enc x).length = sz) : ∀ (ys : List α) (k : Nat) (y y' : α) (j : Nat) (c : Value), ys[k]? = some y → j < sz → enc y' = (enc y).set j c → (ys.flatMap enc).set (k * sz + j) c = (ys.set k y').flatMap enc
  | [], k, y, y', j, c, h, _, _ => by simp at h
  | x :: ys, 0, y, y', j, c, h, hj, he => by
    simp at h
    subst h
    simp only [List.flatMap_cons, Nat.zero_mul, Nat.zero_add, List.set_cons_zero]
    rw [List.set_append_left _ _ (by rw [henc]; exact hj), he]
  | x :: ys, k + 1, y, y', j, c, h, hj, he => by
    simp only [List.flatMap_cons, List.set_cons_succ]
    rw [List.set_append_right _ _ (by rw [henc, Nat.add_mul]; omega), henc, show (k + 1) * sz + j - sz = k * sz + j from by rw [Nat.add_mul]; omega,
      set_flatMap henc ys k y y' j c (by simpa using h) hj he]
theorem OwnSl.storeAt {α : Type} {base e sz : Nat} {enc : α → List Value} (henc : ∀ x, (enc x).length = sz) {w : World} {g n cap : Nat} {ys : List α} (hn : n = ys.length) (h : OwnSl base e sz enc w (.slice (some ⟨g, 0, none⟩) n cap) ys) {k : Nat} {y y' : α} (hk : ys[k]? = some y) {j : Nat} {c : Value} (hj : j < sz) (he : enc y' = (enc y).set j c) :
    OwnSl base e sz enc (w.setCell ⟨g, k * sz + j, none⟩ c) (.slice (some ⟨g, 0, none⟩) n cap) (ys.set k y') ∧ w.grownBy (w.setCell ⟨g, k * sz + j, none⟩ c) (some g) := by
  subst hn
  obtain ⟨h1, h2⟩ := World.ownsRow.stored h (k * sz + j) c
  refine ⟨?_, h2⟩
  unfold OwnSl
  rw [List.length_set, ← set_flatMap henc ys k y y' j c hk hj he]
  exact h1
theorem known_bound (xs : List Fl) (p : Pk) (now : Int) : known xs p now = -1 ∨ ∃ k : Nat, k < xs.length ∧ known xs p now = k := by
  unfold known kfind
  split
  · cases h : xs.findIdx? (kmatch p now) with
    | none => exact Or.inl rfl
    | some k => exact Or.inr ⟨k, (List.findIdx?_eq_some_iff_getElem.1 h).1, rfl⟩
  · exact Or.inl rfl
theorem expire_len {xs : List Fl} {now : Int} : (expire xs now).length ≤ 20 := by
  unfold expire
  split
  · have h := List.length_filter_le (fun f : Fl => decide (now ≤ f.til)) xs
    have hv : fvalid xs = true := by simp_all
    have := ((fvalid_iff xs).1 hv).1
    omega
  · simp
def RetTr (w : World) (e : Ending) (w' : World) : Prop := ∃ v' ys b, e = .returned (.tuple #[v', .bool b]) ∧ OwnFl w.heap.size w' v' ys ∧ ys.length ≤ 21 ∧ Below w.heap.size w w'
set_option maxHeartbeats 2000000 in
theorem specTF_any (xs : List Fl) (v : Value) (a b c d now life : Int) (w : World) (hs : Fls w v xs) (hn0 : 0 ≤ now) (hn1 : now ≤ 1000000) (hl0 : 0 ≤ life) (hl1 : life ≤ 1000) :
    Calls Tryd.prog 52 #[v, .agg #[.int .i64 a, .int .i64 b, .int .i64 c, .int .i64 d], .int .i64 now, .int .i64 life] w (RetTr w) := by
  cases hfv : fvalid xs
  · go_enter Tryd.func52, Tryd.ntmps52
    go_wp2_with (first | (go_at_call 19; refine (specFV_any _ _ _ (hs.below (by (repeat' (first | with_reducible exact Below.refl _ _ | with_reducible assumption | with_reducible refine Below.setCell ?_ ?_ _ | with_reducible refine Below.alloc ?_ ?_ _ | with_reducible refine Below.drew ?_ | with_reducible refine belDrewN ?_ _ | with_reducible refine Below.trans ?_ (Below.mono (by assumption) ?_) | omega | (simp; omega) | (simp; done)))))).mono ?_; rw [hfv]; rintro e w1 ⟨rfl, hb⟩; obtain ⟨hc, hf⟩ := bcell hb; have hz := hb.size; (try simp at hz)))
    go_ret2
    exact ⟨_, [], false, rfl, by simpa using! World.ownsRow_made w1 #[] 0 (by omega) (by simp) (by simp), by simp, by (repeat' (first | with_reducible exact Below.refl _ _ | with_reducible assumption | with_reducible refine Below.setCell ?_ ?_ _ | with_reducible refine Below.alloc ?_ ?_ _ | with_reducible refine Below.drew ?_ | with_reducible refine belDrewN ?_ _ | with_reducible refine Below.trans ?_ (Below.mono (by assumption) ?_) | omega | (simp; omega) | (simp; done)))⟩
  · cases hp : Pk.ok ⟨a, b, c, d⟩
    · go_enter Tryd.func52, Tryd.ntmps52
      go_wp2_with (first | (go_at_call 19; refine (specFV_any _ _ _ (hs.below (by (repeat' (first | with_reducible exact Below.refl _ _ | with_reducible assumption | with_reducible refine Below.setCell ?_ ?_ _ | with_reducible refine Below.alloc ?_ ?_ _ | with_reducible refine Below.drew ?_ | with_reducible refine belDrewN ?_ _ | with_reducible refine Below.trans ?_ (Below.mono (by assumption) ?_) | omega | (simp; omega) | (simp; done)))))).mono ?_; rw [hfv]; rintro e w1 ⟨rfl, hb⟩; obtain ⟨hc, hf⟩ := bcell hb; have hz := hb.size; (try simp at hz); have kb1 := ownCells hb w.heap.size (by simp)) | (go_at_call 16; refine (specPV_any _ _ _ _ _).mono ?_; rw [hp]; rintro e w1 ⟨rfl, hb⟩; obtain ⟨hc, hf⟩ := bcell hb; have hz := hb.size; (try simp at hz)))
      go_ret2
      exact ⟨_, [], false, rfl, by simpa using! World.ownsRow_made _ #[] 0 (by omega) (by simp) (by simp), by simp, by (repeat' (first | with_reducible exact Below.refl _ _ | with_reducible assumption | with_reducible refine Below.setCell ?_ ?_ _ | with_reducible refine Below.alloc ?_ ?_ _ | with_reducible refine Below.drew ?_ | with_reducible refine belDrewN ?_ _ | with_reducible refine Below.trans ?_ (Below.mono (by assumption) ?_) | omega | (simp; omega) | (simp; done)))⟩
    · have hu : inB now 0 1000000 = true := inB_true hn0 hn1
      have hv : inB life 0 1000 = true := inB_true hl0 hl1
      go_enter Tryd.func52, Tryd.ntmps52
      
      go_wp2_with fail; refine (specFV_any _ _ _ (hs.below (by (repeat' (first | with_reducible exact Below.refl _ _ | with_reducible assumption | with_reducible refine Below.setCell ?_ ?_ _ | with_reducible refine Below.alloc ?_ ?_ _ | with_reducible refine Below.drew ?_ | with_reducible refine belDrewN ?_ _ | with_reducible refine Below.trans ?_ (Below.mono (by assumption) ?_) | omega | (simp; omega) | (simp; done)))))).mono ?_; rw [hfv]; rintro e w1 ⟨rfl, hb1⟩; obtain ⟨hc1, hf1⟩ := bcell hb1; have hz1 := hb1.size; (try simp at hz1); (try have hz1_w_0 : w.heap.size < w1.heap.size := (by omega)); (try have hz1_w_1 : w.heap.size + 1 < w1.heap.size := (by omega)); (try have hz1_w_2 : w.heap.size + 2 < w1.heap.size := (by omega)); have kb1 := ownCells hb1 w.heap.size (by simp)
      go_wp2_with fail; refine (specPV_any _ _ _ _ _).mono ?_; rw [hp]; rintro e w2 ⟨rfl, hb2⟩; obtain ⟨hc2, hf2⟩ := bcell hb2; have hz2 := hb2.size; (try simp at hz2); (try have hz2_w_0 : w.heap.size < w2.heap.size := (by omega)); (try have hz2_w_1 : w.heap.size + 1 < w2.heap.size := (by omega)); (try have hz2_w_2 : w.heap.size + 2 < w2.heap.size := (by omega)); (try have hz2_w1_0 : w1.heap.size < w2.heap.size := (by omega)); (try have hz2_w1_1 : w1.heap.size + 1 < w2.heap.size := (by omega)); (try have hz2_w1_2 : w1.heap.size + 2 < w2.heap.size := (by omega)); have kb2 := ownCells hb2 w.heap.size (by omega)
      go_wp2_with fail; refine (l1In_any _ _ _ _).mono ?_; rw [hu]; rintro e _ ⟨rfl, rfl⟩
      go_wp2_with fail; refine (l1In_any _ _ _ _).mono ?_; rw [hv]; rintro e _ ⟨rfl, rfl⟩
      go_wp2_with fail
      refine (specEF_any xs _ now _ (hs.below (by (repeat' (first | with_reducible exact Below.refl _ _ | with_reducible assumption | with_reducible refine Below.setCell ?_ ?_ _ | with_reducible refine Below.alloc ?_ ?_ _ | with_reducible refine Below.drew ?_ | with_reducible refine belDrewN ?_ _ | with_reducible refine Below.trans ?_ (Below.mono (by assumption) ?_) | omega | (simp; omega) | (simp; done)))))).mono ?_
      rintro e w3 ⟨v3, rfl, ho3, hb3⟩
      have kb3 := ownCells hb3 w.heap.size (by omega)
      have hz3 := hb3.size
      have hB3 : Below w.heap.size w w3 := by (repeat' (first | with_reducible exact Below.refl _ _ | with_reducible assumption | with_reducible refine Below.setCell ?_ ?_ _ | with_reducible refine Below.alloc ?_ ?_ _ | with_reducible refine Below.drew ?_ | with_reducible refine belDrewN ?_ _ | with_reducible refine Below.trans ?_ (Below.mono (by assumption) ?_) | omega | (simp; omega) | (simp; done)))
      have hlen : (expire xs now).length ≤ 20 := expire_len
      generalize expire xs now = ys at ho3 hlen
      clear hc1 hf1 hc2 hf2
      obtain ⟨i0, hi, hy0, hy1, hy2⟩ := info_parts infoFl
      go_wp2_with fail
      · refine (specKF_any ys _ _ _ _ _ _ _ ho3.fls).mono ?_
        rintro e w4 ⟨rfl, hb4⟩
        have kb4 := ownCells hb4 w.heap.size (by omega)
        have hz4 := hb4.size
        have ho4 := Lib.hid (OwnSl.mono (base' := w.heap.size) (OwnSl.kept ho3 hb4) (by omega))
        have hB4 : Below w.heap.size w w4 := hB3.trans (hb4.mono (by omega))
        have hkk := known_bound ys ⟨a, b, c, d⟩ now
        obtain ⟨kn, hkn⟩ : ∃ kn, known ys ⟨a, b, c, d⟩ now = kn := ⟨_, rfl⟩
        rw [hkn] at hkk ⊢
        clear ho3 hkn
        obtain ⟨sa, cap, rfl, hlc, hcm, -⟩ := OwnFl.fls ho4.out
        unfold maxLen at hcm
        rcases hkk with rfl | ⟨k, hkl, rfl⟩
        · by_cases h20 : ys.length = 20
          · go_wp2_with fail
            go_ret2
            exact ⟨.slice sa 20 cap, ys, false, rfl, by have := ho4.out; rw [h20] at this; exact this, by omega, hB4⟩
          · go_wp2_with (at_builtin; refine wpList_append_own _ rfl _ _ 37 rfl w.heap.size 45 i0 _ 5 40 Tryd.underlying37 hi hy0 hy1 hy2 rfl (by decide) _ _ _ rfl (World.ownsRow.alloc ho4.out _) ⟨w4.heap.size, 0, none⟩ 1 1 (Fl.enc ⟨⟨a, b, c, d⟩, now + life⟩) rfl rfl ?c1 ?c2 ?c3 ?c4 ?c5 ?_)
            case c1 => exact cellsNew w4 (Fl.enc ⟨⟨a, b, c, d⟩, now + life⟩) _
            case c2 => simp [Value.oneCell']
            case c3 => simp only [maxLen]; omega
            case c4 => omega
            case c5 => simp; omega
            · intro v' w5 hown5 hgrow5 _
              have hB5 := belGrown (hB4.alloc (by omega) _) (World.ownsRow.alloc ho4.out _) hgrow5 (by simp; omega)
              have HO5 := Lib.hid (OwnSl.pushed rfl hown5)
              clear hown5 hgrow5
              go_wp2
              go_ret2
              exact ⟨v', ys ++ [Fl.mk ⟨a, b, c, d⟩ (now + life)], true, rfl, HO5.out, by simp; omega, hB5⟩
        · rcases OwnSl.form ho4.out with ⟨-, rfl⟩ | ⟨g, cap', he, hg, hgl, hlc', hcm', hfz⟩
          · simp at hkl
          · obtain ⟨rfl, -, rfl⟩ := Value.slice.inj he
            obtain ⟨f1, f2, f3, f4, t, hx⟩ := Fls.ex hkl
            obtain ⟨hgl2, c0, c1, c2, c3, c4⟩ := (OwnFl.fls ho4.out).get hx
            simp at c4
            clear c0 c1 c2 c3
            go_wp2_with fail
            go_ret2
            exact ⟨.slice (some ⟨g, 0, none⟩) ys.length cap, ys.set k ⟨⟨f1, f2, f3, f4⟩, now + life⟩, true, rfl, (OwnSl.storeAt (sz := 5) (enc := Fl.enc) (fun _ => rfl) rfl ho4.out hx (by omega) rfl).1, by simp; omega, by (repeat' (first | with_reducible exact Below.refl _ _ | with_reducible assumption | with_reducible refine Below.setCell ?_ ?_ _ | with_reducible refine Below.alloc ?_ ?_ _ | with_reducible refine Below.drew ?_ | with_reducible refine belDrewN ?_ _ | with_reducible refine Below.trans ?_ (Below.mono (by assumption) ?_) | omega | (simp; omega) | (simp; done)))⟩
      · refine (specKF_any ys _ _ _ _ _ _ _ ho3.fls).mono ?_
        rintro e w4 ⟨rfl, hb4⟩
        have kb4 := ownCells hb4 w.heap.size (by omega)
        have hz4 := hb4.size
        have ho4 := Lib.hid (OwnSl.mono (base' := w.heap.size) (OwnSl.kept ho3 hb4) (by omega))
        have hB4 : Below w.heap.size w w4 := hB3.trans (hb4.mono (by omega))
        have hkk := known_bound ys ⟨a, b, c, d⟩ now
        obtain ⟨kn, hkn⟩ : ∃ kn, known ys ⟨a, b, c, d⟩ now = kn := ⟨_, rfl⟩
        rw [hkn] at hkk ⊢
        clear ho3 hkn
        obtain ⟨sa, cap, rfl, hlc, hcm, -⟩ := OwnFl.fls ho4.out
        unfold maxLen at hcm
        rcases hkk with rfl | ⟨k, hkl, rfl⟩
        · by_cases h20 : ys.length = 20
          · go_wp2_with fail
            go_ret2
            exact ⟨.slice sa 20 cap, ys, false, rfl, by have := ho4.out; rw [h20] at this; exact this, by omega, hB4⟩
          · go_wp2_with (at_builtin; refine wpList_append_own _ rfl _ _ 37 rfl w.heap.size 45 i0 _ 5 40 Tryd.underlying37 hi hy0 hy1 hy2 rfl (by decide) _ _ _ rfl (World.ownsRow.alloc ho4.out _) ⟨w4.heap.size, 0, none⟩ 1 1 (Fl.enc ⟨⟨a, b, c, d⟩, 1000000⟩) rfl rfl ?c1 ?c2 ?c3 ?c4 ?c5 ?_)
            case c1 => exact cellsNew w4 (Fl.enc ⟨⟨a, b, c, d⟩, 1000000⟩) _
            case c2 => simp [Value.oneCell']
            case c3 => simp only [maxLen]; omega
            case c4 => omega
            case c5 => simp; omega
            · intro v' w5 hown5 hgrow5 _
              have hB5 := belGrown (hB4.alloc (by omega) _) (World.ownsRow.alloc ho4.out _) hgrow5 (by simp; omega)
              have HO5 := Lib.hid (OwnSl.pushed rfl hown5)
              clear hown5 hgrow5
              go_wp2
              go_ret2
              exact ⟨v', ys ++ [Fl.mk ⟨a, b, c, d⟩ (1000000)], true, rfl, HO5.out, by simp; omega, hB5⟩
        · rcases OwnSl.form ho4.out with ⟨-, rfl⟩ | ⟨g, cap', he, hg, hgl, hlc', hcm', hfz⟩
          · simp at hkl
          · obtain ⟨rfl, -, rfl⟩ := Value.slice.inj he
            obtain ⟨f1, f2, f3, f4, t, hx⟩ := Fls.ex hkl
            obtain ⟨hgl2, c0, c1, c2, c3, c4⟩ := (OwnFl.fls ho4.out).get hx
            simp at c4
            clear c0 c1 c2 c3
            go_wp2_with fail
            go_ret2
            exact ⟨.slice (some ⟨g, 0, none⟩) ys.length cap, ys.set k ⟨⟨f1, f2, f3, f4⟩, 1000000⟩, true, rfl, (OwnSl.storeAt (sz := 5) (enc := Fl.enc) (fun _ => rfl) rfl ho4.out hx (by omega) rfl).1, by simp; omega, by (repeat' (first | with_reducible exact Below.refl _ _ | with_reducible assumption | with_reducible refine Below.setCell ?_ ?_ _ | with_reducible refine Below.alloc ?_ ?_ _ | with_reducible refine Below.drew ?_ | with_reducible refine belDrewN ?_ _ | with_reducible refine Below.trans ?_ (Below.mono (by assumption) ?_) | omega | (simp; omega) | (simp; done)))⟩
end Go.Proofs.YtlppchkilinpfaaDoor
