/- Lists of flows: the program's functions. -/
import Derived.Test.YtlppchkilinpfaaDoorFlI
namespace Go.Proofs.YtlppchkilinpfaaDoor
open Go.RowKit
set_option maxHeartbeats 400000 in
theorem implFV_any (xs : List Fl) (v : Value) (w : World) (hs : Fls w v xs) (ht : Tab w) :
    Calls Tryd.prog 21 #[v] w fun e w' => e = .returned (.bool (fvalid xs)) ∧ Below w.heap.size w w' := by
  obtain ⟨a, cap, rfl, hlc, hcm, -⟩ := id hs
  cases hv : fvalid xs
  · go_enter Tryd.func21, Tryd.ntmps21
    go_wp2_with fail
    refine (index_any xs _ w hs ht).mono ?_
    rintro e w1 ⟨hb, ⟨_, rfl⟩ | ⟨h, _⟩⟩
    · go_wp2
      go_ret
      exact ⟨rfl, hb⟩
    · rw [hv] at h; cases h
  · go_enter Tryd.func21, Tryd.ntmps21
    go_wp2_with fail
    refine (index_any xs _ w hs ht).mono ?_
    rintro e w1 ⟨hb, ⟨h, _⟩ | ⟨_, bm, L, rfl, _, _⟩⟩
    · rw [hv] at h; cases h
    · go_wp2
      go_ret
      exact ⟨rfl, hb⟩
theorem implFV_b {xs : List Fl} {v : Value} {w : World} {r : Bool} (hs : Fls w v xs) (ht : Tab w) (h : fvalid xs = r) :
    Calls Tryd.prog 21 #[v] w fun e w' => e = .returned (.bool r) ∧ Below w.heap.size w w' := by
  subst h
  exact implFV_any xs v w hs ht
/-- The index finds what the search finds. -/
theorem Ix.known {xs : List Fl} {L : List (Pk × Nat)} (h : Ix xs xs.length L) (hv : fvalid xs = true) {p : Pk} {now : Int} (hp : p.ok = true) (hn : inB now 0 1000000 = true) :
    (look L p = none → known xs p now = -1) ∧ ∀ n, look L p = some n → ∃ x, xs[n]? = some x ∧ known xs p now = if now ≤ x.til then (n : Int) else -1 := by
  have hg := ((fvalid_iff xs).1 hv).2
  have same_iff : ∀ x : Fl, sameP x.who p = true ↔ (p = x.who ∨ p = x.who.rev) := by
    intro x
    unfold sameP
    rw [revv_ok hp]
    simp only [Bool.or_eq_true, decide_eq_true_eq]
    constructor
    · rintro (e | e)
      · exact Or.inl e.symm
      · exact Or.inr (by rw [e, rev_rev])
    · rintro (e | e)
      · exact Or.inl e.symm
      · exact Or.inr (by rw [e, rev_rev])
  constructor
  · intro hl
    refine known_none fun i x hi hx => ?_
    obtain ⟨a, b⟩ := h.2 i x hi hx
    have : sameP x.who p = false := by
      cases hs : sameP x.who p
      · rfl
      · rcases (same_iff x).1 hs with e | e
        · exact absurd (by rw [← e]; exact hl) a
        · exact absurd (by rw [← e]; exact hl) b
    simp [kmatch, this]
  · intro n hl
    obtain ⟨hn1, x, hx, e⟩ := h.1 p n hl
    refine ⟨x, hx, ?_⟩
    have hs : sameP x.who p = true := (same_iff x).2 e
    have other : ∀ m y, m < xs.length → m ≠ n → xs[m]? = some y → sameP y.who p = false := by
      intro m y hm hmn hy
      cases hs2 : sameP y.who p
      · rfl
      · exfalso
        have e2 := (same_iff y).1 hs2
        have hx0 := (hg n x hn1 hx)
        have hy0 := (hg m y hm hy)
        have hxok : x.who.ok = true := by have := hx0.1; simp [fok] at this; exact this.1
        have hyok : y.who.ok = true := by have := hy0.1; simp [fok] at this; exact this.1
        have key : y.who = x.who ∨ y.who = x.who.rev := by
          rcases e with e | e <;> rcases e2 with e2 | e2
          · exact Or.inl (by rw [← e2, e])
          · exact Or.inr (by rw [← e, e2, rev_rev])
          · exact Or.inr (by rw [← e2, e])
          · exact Or.inl (by have := e2.symm.trans e; rw [← rev_rev y.who, this, rev_rev])
        have key2 : x.who = y.who ∨ x.who = y.who.rev := by
          rcases key with k | k
          · exact Or.inl k.symm
          · exact Or.inr (by rw [k, rev_rev])
        rcases Nat.lt_or_gt_of_ne hmn with hlt | hlt
        · have := hx0.2 m y hlt hy
          unfold sameP at this
          rw [revv_ok hxok] at this
          simp at this
          rcases key with k | k
          · exact this.1 k
          · exact this.2 k
        · have := hy0.2 n x hlt hx
          unfold sameP at this
          rw [revv_ok hyok] at this
          simp at this
          rcases key2 with k | k
          · exact this.1 k
          · exact this.2 k
    split
    · rename_i hle
      exact known_some (by simp [vall, hv, hp, hn]) hx (by simp [kmatch, hs, hle]) fun i y hi hy => by
        have hil : i < xs.length := (List.getElem?_eq_some_iff.1 hy).1
        simp [kmatch, other i y hil (by omega) hy]
    · rename_i hle
      refine known_none fun i y hi hy => ?_
      by_cases hin : i = n
      · subst hin
        rw [hx] at hy; cases hy
        simp [kmatch]; intro _; omega
      · simp [kmatch, other i y hi hin hy]
set_option maxHeartbeats 1000000 in
theorem flowKnown_any (xs : List Fl) (v : Value) (bm : Nat) (L : List (Pk × Nat)) (p1 p2 p3 p4 now : Int) (w : World) (hs : Fls w v xs) (hm : MapIs w bm L) (hi : Ix xs xs.length L) (hv : fvalid xs = true) (hp : Pk.ok ⟨p1, p2, p3, p4⟩ = true) (hn : inB now 0 1000000 = true) :
    Calls Tryd.prog 44 #[.map (some bm), v, .agg #[.int .i64 p1, .int .i64 p2, .int .i64 p3, .int .i64 p4], .int .i64 now] w fun e w' => e = .returned (.int .i64 (known xs ⟨p1, p2, p3, p4⟩ now)) ∧ Below w.heap.size w w' := by
  obtain ⟨a, cap, rfl, hlc, hcm, -⟩ := id hs
  unfold maxLen at hcm
  obtain ⟨kn, ks⟩ := hi.known hv hp hn
  have hlk := run_lookPk (w.alloc (.cells #[.int .i64 p1, .int .i64 p2, .int .i64 p3, .int .i64 p4] 24)) bm L (hm.alloc _) p1 p2 p3 p4
  cases hl : look L ⟨p1, p2, p3, p4⟩ with
  | none =>
    rw [hl] at hlk
    rw [kn hl]
    clear kn ks hl hi hv hp hn
    go_enter Tryd.func44, Tryd.ntmps44
    go_wp2
    go_ret
    exact ⟨rfl, by (repeat' (first | with_reducible exact Below.refl _ _ | with_reducible assumption | with_reducible refine Below.setCell ?_ ?_ _ | with_reducible refine Below.alloc ?_ ?_ _ | with_reducible refine Below.drew ?_ | with_reducible refine belDrewN ?_ _ | with_reducible refine Below.trans ?_ (Below.mono (by assumption) ?_) | omega | (simp; omega) | (simp; done)))⟩
  | some n =>
    rw [hl] at hlk
    obtain ⟨⟨⟨f1, f2, f3, f4⟩, t⟩, hx, hk⟩ := ks n hl
    rw [hk]
    have hlt : n < xs.length := (List.getElem?_eq_some_iff.1 hx).1
    have hat := hs.at hlt
    obtain ⟨b, o, g1, g2, g3, g4, t', rfl, hbl, hx', c0, c1, c2, c3, c4⟩ := hat
    rw [hx] at hx'
    cases hx'
    clear kn ks hl hi hv hp hn hk hx c0 c1 c2 c3
    by_cases hle : now ≤ t
    · rw [if_pos hle]
      go_enter Tryd.func44, Tryd.ntmps44
      go_wp2
      go_ret
      exact ⟨rfl, by (repeat' (first | with_reducible exact Below.refl _ _ | with_reducible assumption | with_reducible refine Below.setCell ?_ ?_ _ | with_reducible refine Below.alloc ?_ ?_ _ | with_reducible refine Below.drew ?_ | with_reducible refine belDrewN ?_ _ | with_reducible refine Below.trans ?_ (Below.mono (by assumption) ?_) | omega | (simp; omega) | (simp; done)))⟩
    · rw [if_neg hle]
      go_enter Tryd.func44, Tryd.ntmps44
      go_wp2
      go_ret
      exact ⟨rfl, by (repeat' (first | with_reducible exact Below.refl _ _ | with_reducible assumption | with_reducible refine Below.setCell ?_ ?_ _ | with_reducible refine Below.alloc ?_ ?_ _ | with_reducible refine Below.drew ?_ | with_reducible refine belDrewN ?_ _ | with_reducible refine Below.trans ?_ (Below.mono (by assumption) ?_) | omega | (simp; omega) | (simp; done)))⟩
set_option maxHeartbeats 1000000 in
theorem implKF_any (xs : List Fl) (v : Value) (p1 p2 p3 p4 now : Int) (w : World) (hs : Fls w v xs) (ht : Tab w) :
    Calls Tryd.prog 24 #[v, .agg #[.int .i64 p1, .int .i64 p2, .int .i64 p3, .int .i64 p4], .int .i64 now] w fun e w' => e = .returned (.int .i64 (known xs ⟨p1, p2, p3, p4⟩ now)) ∧ Below w.heap.size w w' := by
  obtain ⟨a, cap, rfl, hlc, hcm, -⟩ := id hs
  go_enter Tryd.func24, Tryd.ntmps24
  go_wp2_with fail
  refine (index_any xs _ _ (hs.below (by (repeat' (first | with_reducible exact Below.refl _ _ | with_reducible assumption | with_reducible refine Below.setCell ?_ ?_ _ | with_reducible refine Below.alloc ?_ ?_ _ | with_reducible refine Below.drew ?_ | with_reducible refine belDrewN ?_ _ | with_reducible refine Below.trans ?_ (Below.mono (by assumption) ?_) | omega | (simp; omega) | (simp; done))))) (ht.below (by (repeat' (first | with_reducible exact Below.refl _ _ | with_reducible assumption | with_reducible refine Below.setCell ?_ ?_ _ | with_reducible refine Below.alloc ?_ ?_ _ | with_reducible refine Below.drew ?_ | with_reducible refine belDrewN ?_ _ | with_reducible refine Below.trans ?_ (Below.mono (by assumption) ?_) | omega | (simp; omega) | (simp; done)))))).mono ?_
  rintro e w1 ⟨hb, ⟨hv, rfl⟩ | ⟨hv, bm, L, rfl, hm, hi⟩⟩
  · go_wp2
    go_ret
    exact ⟨ret_int (by rw [known_bad (by simp [vall, hv])]), by (repeat' (first | with_reducible exact Below.refl _ _ | with_reducible assumption | with_reducible refine Below.setCell ?_ ?_ _ | with_reducible refine Below.alloc ?_ ?_ _ | with_reducible refine Below.drew ?_ | with_reducible refine belDrewN ?_ _ | with_reducible refine Below.trans ?_ (Below.mono (by assumption) ?_) | omega | (simp; omega) | (simp; done)))⟩
  · have HV := Lib.hid hv; clear hv
    have hz1 := hb.size; simp at hz1
    have kb := ownCells hb w.heap.size (by simp)
    simp at kb
    have kb0 := kb 0; have kb1 := kb 1; have kb2 := kb 2; have kb3 := kb 3
    simp at kb0 kb1 kb2 kb3
    clear kb
    have hb1 : Below w.heap.size w w1 := ((Below.refl _ _).alloc (Nat.le_refl _) _).trans (hb.mono (by simp))
    clear hb
    cases hp0 : Pk.ok ⟨p1, p2, p3, p4⟩
    · have HP := Lib.hid hp0; clear hp0
      go_wp2_with (first | (go_at_call 33; refine (pv_b HP.out (ht.below hb1)).mono ?_; rintro e w2 ⟨rfl, hb⟩))
      go_ret
      exact ⟨ret_int (by rw [known_bad (by simp [vall, HP.out])]), by (repeat' (first | with_reducible exact Below.refl _ _ | with_reducible assumption | with_reducible refine Below.setCell ?_ ?_ _ | with_reducible refine Below.alloc ?_ ?_ _ | with_reducible refine Below.drew ?_ | with_reducible refine belDrewN ?_ _ | with_reducible refine Below.trans ?_ (Below.mono (by assumption) ?_) | omega | (simp; omega) | (simp; done)))⟩
    · have HP := Lib.hid hp0; clear hp0
      cases hu0 : inB now 0 1000000
      · have HU := Lib.hid hu0; clear hu0
        go_wp2_with (first | (go_at_call 33; refine (pv_b HP.out (ht.below hb1)).mono ?_; rintro e w2 ⟨rfl, hb⟩) | (go_at_call 43; refine (timeValid_b HU.out _).mono ?_; rintro e w3 ⟨rfl, rfl⟩))
        go_ret
        exact ⟨ret_int (by rw [known_bad (by simp [vall, HU.out])]), by (repeat' (first | with_reducible exact Below.refl _ _ | with_reducible assumption | with_reducible refine Below.setCell ?_ ?_ _ | with_reducible refine Below.alloc ?_ ?_ _ | with_reducible refine Below.drew ?_ | with_reducible refine belDrewN ?_ _ | with_reducible refine Below.trans ?_ (Below.mono (by assumption) ?_) | omega | (simp; omega) | (simp; done)))⟩
      · have HU := Lib.hid hu0; clear hu0
        go_wp2_with (first | (go_at_call 33; refine (pv_b HP.out (ht.below hb1)).mono ?_; rintro e w2 ⟨rfl, hb⟩; have hz2 := hb.size; have kc := ownCells hb w.heap.size (by omega)) | (go_at_call 43; refine (timeValid_b HU.out _).mono ?_; rintro e w3 ⟨rfl, rfl⟩) | (go_at_call 44; refine (flowKnown_any xs _ bm L p1 p2 p3 p4 now _ (hs.below (by (repeat' (first | with_reducible exact Below.refl _ _ | with_reducible assumption | with_reducible refine Below.setCell ?_ ?_ _ | with_reducible refine Below.alloc ?_ ?_ _ | with_reducible refine Below.drew ?_ | with_reducible refine belDrewN ?_ _ | with_reducible refine Below.trans ?_ (Below.mono (by assumption) ?_) | omega | (simp; omega) | (simp; done))))) (hm.below (by (repeat' (first | with_reducible exact Below.refl _ _ | with_reducible assumption | with_reducible refine Below.setCell ?_ ?_ _ | with_reducible refine Below.alloc ?_ ?_ _ | with_reducible refine Below.drew ?_ | with_reducible refine belDrewN ?_ _ | with_reducible refine Below.trans ?_ (Below.mono (by assumption) ?_) | omega | (simp; omega) | (simp; done))))) hi HV.out HP.out HU.out).mono ?_; rintro e w4 ⟨rfl, hb4⟩))
        go_ret
        exact ⟨rfl, by (repeat' (first | with_reducible exact Below.refl _ _ | with_reducible assumption | with_reducible refine Below.setCell ?_ ?_ _ | with_reducible refine Below.alloc ?_ ?_ _ | with_reducible refine Below.drew ?_ | with_reducible refine belDrewN ?_ _ | with_reducible refine Below.trans ?_ (Below.mono (by assumption) ?_) | omega | (simp; omega) | (simp; done)))⟩
theorem OwnFl.nil (base : Nat) (w : World) : OwnFl base w (.slice none 0 0) [] := OwnSl.nil _ _ _ _ _
set_option maxHeartbeats 1000000 in
theorem notExpired_any (xs : List Fl) (v : Value) (now : Int) (w : World) (hs : Fls w v xs) (h20 : xs.length ≤ 20) :
    Calls Tryd.prog 46 #[v, .int .i64 now] w (RetFls (xs.filter (fun f => decide (now ≤ f.til))) w) := by
  obtain ⟨a, cap, rfl, hlc, hcm, -⟩ := id hs
  unfold maxLen at hcm
  obtain ⟨i0, hi, hz0, hz1, hz2⟩ := info_parts infoFl
  go_enter Tryd.func46, Tryd.ntmps46
  go_wp2_with (at_make; refine wpList_make_own _ rfl _ _ 37 rfl w.heap.size 45 i0 _ 5 Tryd.underlying37 hi hz0 hz1 _ _ _ xs.length rfl rfl rfl ?b1 ?b2 ?b3 ?_)
  case b1 => rw [hz2]; omega
  case b2 => simp only [maxLen]; omega
  case b3 => omega
  intro w1 hown1 hgrow1
  have hb1 : Below w.heap.size w w1 := (Below.refl _ _).grown hgrow1 (Nat.le_refl _) (fun k hk => by cases hk)
  clear hgrow1
  have HO1 := Lib.hid hown1; clear hown1
  go_wp2_with fail
  go_loopw [5, 13] (fun v i wr => ∃ k : Nat, k ≤ xs.length ∧ i = .int .i64 k ∧ OwnFl w.heap.size wr v ((xs.take k).filter (fun f => decide (now ≤ f.til))) ∧ Below w.heap.size w wr) (fun _ i _ => xs.length - (intOf i).toNat)
  case atStart => exact ⟨0, by omega, rfl, by simpa using! HO1.out, hb1⟩
  case round =>
    obtain ⟨k, hk, rfl, hown, hbr⟩ := hrel
    have HO := Lib.hid hown; clear hown HO1 hb1
    have hs2 := Lib.hid (hs.below hbr)
    have hzr := hbr.size
    by_cases hlt : k < xs.length
    · obtain ⟨b, o, f1, f2, f3, f4, t, rfl, hbl, hx, c0, c1, c2, c3, c4⟩ := hs2.out.at hlt
      have HX := Lib.hid hx; clear hx
      by_cases hn : now ≤ t
      · have HF := Lib.hid (show (xs.take (k + 1)).filter (fun f => decide (now ≤ f.til)) = (xs.take k).filter (fun f => decide (now ≤ f.til)) ++ [⟨⟨f1, f2, f3, f4⟩, t⟩] by rw [List.take_add_one, HX.out]; simp [hn])
        have hlen := List.length_filter_le (fun f : Fl => decide (now ≤ f.til)) (xs.take k)
        have hlen2 : (xs.take k).length ≤ k := List.length_take_le _ _
        go_wp2_with (at_builtin; refine wpList_append_own _ rfl _ _ 37 rfl w.heap.size 45 i0 _ 5 40 Tryd.underlying37 hi hz0 hz1 hz2 rfl (by decide) _ _ _ rfl (World.ownsRow.alloc (World.ownsRow.alloc HO.out _) _) ⟨wr.heap.size + 1, 0, none⟩ 1 1 (Fl.enc ⟨⟨f1, f2, f3, f4⟩, t⟩) rfl rfl ?c1 ?c2 ?c3 ?c4 ?c5 ?_)
        case c1 => simpa using cellsNew (wr.alloc (.cells (Fl.enc ⟨⟨f1, f2, f3, f4⟩, t⟩).toArray 45)) (Fl.enc ⟨⟨f1, f2, f3, f4⟩, t⟩) _
        case c2 => simp [Value.oneCell']
        case c3 => simp only [maxLen]; omega
        case c4 => omega
        case c5 => simp; omega
        intro v' w3 hown3 hgrow3 _
        have hB := belGrown ((hbr.alloc (by omega) _).alloc (by simp; omega) _) (World.ownsRow.alloc (World.ownsRow.alloc HO.out _) _) hgrow3 (by simp; omega)
        have HO3 := Lib.hid (OwnSl.pushed rfl hown3)
        clear hown3 hgrow3
        go_wp2
        go_roundw
        case rel => exact ⟨k + 1, by omega, by go_num, by rw [HF.out]; exact HO3.out, hB⟩
        case measure => simp [intOf]; omega
      · have HF := Lib.hid (show (xs.take (k + 1)).filter (fun f => decide (now ≤ f.til)) = (xs.take k).filter (fun f => decide (now ≤ f.til)) by rw [List.take_add_one, HX.out]; simp; omega)
        go_wp2
        go_roundw
        case rel => exact ⟨k + 1, by omega, by go_num, by rw [HF.out]; exact OwnSl.kept HO.out (by (repeat' (first | with_reducible exact Below.refl _ _ | with_reducible assumption | with_reducible refine Below.setCell ?_ ?_ _ | with_reducible refine Below.alloc ?_ ?_ _ | with_reducible refine Below.drew ?_ | with_reducible refine belDrewN ?_ _ | with_reducible refine Below.trans ?_ (Below.mono (by assumption) ?_) | omega | (simp; omega) | (simp; done)))), by (repeat' (first | with_reducible exact Below.refl _ _ | with_reducible assumption | with_reducible refine Below.setCell ?_ ?_ _ | with_reducible refine Below.alloc ?_ ?_ _ | with_reducible refine Below.drew ?_ | with_reducible refine belDrewN ?_ _ | with_reducible refine Below.trans ?_ (Below.mono (by assumption) ?_) | omega | (simp; omega) | (simp; done)))⟩
        case measure => simp [intOf]; omega
    · have HE := Lib.hid (show k = xs.length by omega)
      go_wp2
      go_ret
      refine ⟨_, rfl, ?_, hbr⟩
      have := HO.out
      rw [HE.out, List.take_length] at this
      exact this
set_option maxHeartbeats 400000 in
theorem implEF_any (xs : List Fl) (v : Value) (now : Int) (w : World) (hs : Fls w v xs) (ht : Tab w) :
    Calls Tryd.prog 27 #[v, .int .i64 now] w (RetFls (expire xs now) w) := by
  obtain ⟨a, cap, rfl, hlc, hcm, -⟩ := id hs
  cases hv0 : fvalid xs
  · have HV := Lib.hid hv0; clear hv0
    go_enter Tryd.func27, Tryd.ntmps27
    go_wp2_with (first | (go_at_call 21; refine (implFV_b hs ht HV.out).mono ?_; rintro e w1 ⟨rfl, hb⟩))
    go_ret
    exact ⟨_, rfl, by rw [expire, HV.out]; exact OwnFl.nil _ _, hb⟩
  · have HV := Lib.hid hv0; clear hv0
    cases hu0 : inB now 0 1000000
    · have HU := Lib.hid hu0; clear hu0
      go_enter Tryd.func27, Tryd.ntmps27
      go_wp2_with (first | (go_at_call 21; refine (implFV_b hs ht HV.out).mono ?_; rintro e w1 ⟨rfl, hb⟩) | (go_at_call 43; refine (timeValid_b HU.out _).mono ?_; rintro e w3 ⟨rfl, rfl⟩))
      go_ret
      exact ⟨_, rfl, by rw [expire, HV.out, HU.out]; exact OwnFl.nil _ _, hb⟩
    · have HU := Lib.hid hu0; clear hu0
      have h20 := ((fvalid_iff xs).1 HV.out).1
      go_enter Tryd.func27, Tryd.ntmps27
      go_wp2_with (first | (go_at_call 21; refine (implFV_b hs ht HV.out).mono ?_; rintro e w1 ⟨rfl, hb⟩) | (go_at_call 43; refine (timeValid_b HU.out _).mono ?_; rintro e w3 ⟨rfl, rfl⟩) | (go_at_call 46; refine (notExpired_any xs _ now _ (hs.below hb) h20).mono ?_; rintro e w4 ⟨v4, rfl, ho4, hb4⟩))
      go_ret
      refine ⟨_, rfl, ?_, hb.trans (hb4.mono hb.size)⟩
      rw [expire, HV.out, HU.out]
      exact OwnSl.mono ho4 hb.size
end Go.Proofs.YtlppchkilinpfaaDoor
