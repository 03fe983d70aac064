/- The law FnTableFind: the walk. -/
import Derived.Test.YtfnfpekjjmejnaaRdTF
import Derived.Test.YtfnfpekjjmejnaaShP
namespace Go.Proofs.Ytfnfpekjjmejnaa
open Go.RowKit
theorem implTF_b {xs : List En} {v : Value} {a : Int} {w : World} {r : Int} (hs : Ens w v xs) (h : tfind xs a = r) :
    Calls Try.prog 23 #[v, .int .i64 a] w fun e w' => e = .returned (.int .i64 r) ∧ Below w.heap.size w w' := by
  subst h
  exact implTF_any xs v a w hs
theorem specTF_b {xs : List En} {v : Value} {a : Int} {w : World} {r : Int} (hs : Ens w v xs) (h : tfind xs a = r) :
    Calls Try.prog 22 #[v, .int .i64 a] w fun e w' => e = .returned (.int .i64 r) ∧ Below w.heap.size w w' := by
  subst h
  exact specTF_any xs v a w hs
/-- The best entry so far. -/
def FBest (xs : List En) (a : Int) (k : Nat) (bl vl : Int) : Prop :=
  (sf xs ⟨a, 16⟩ (-1) k = -1 ∧ bl = -1 ∧ vl = -1) ∨ ∃ (j : Nat) (y : En), sf xs ⟨a, 16⟩ (-1) k = (j : Nat) ∧ xs[j]? = some y ∧ bl = y.w.l ∧ vl = y.v
theorem FBest.new {xs : List En} {a : Int} {k : Nat} {bl vl : Int} {x : En} (h : FBest xs a k bl vl) (hx : xs[k]? = some x) (hw : Pf.within ⟨a, 16⟩ x.w = true) (hl : bl < x.w.l) : FBest xs a (k + 1) x.w.l x.v := by
  refine .inr ⟨k, x, sf_new hx (by omega) hw ?_, hx, rfl, rfl⟩
  rcases h with ⟨h1, _, _⟩ | ⟨j, y, h1, h2, h3, _⟩
  · exact .inl (by omega)
  · refine .inr (fun z hz => ?_)
    rw [h1] at hz
    simp only [Int.toNat_natCast] at hz
    rw [h2] at hz; cases hz
    omega
theorem FBest.same {xs : List En} {a : Int} {k : Nat} {bl vl : Int} {x : En} (h : FBest xs a k bl vl) (hx : xs[k]? = some x) (hw : Pf.within ⟨a, 16⟩ x.w = false ∨ x.w.l ≤ bl) : FBest xs a (k + 1) bl vl := by
  have key : sf xs ⟨a, 16⟩ (-1) (k + 1) = sf xs ⟨a, 16⟩ (-1) k := by
    refine sf_same hx ?_
    rcases hw with hw | hw
    · exact .inr (.inl hw)
    · rcases h with ⟨_, h2, _⟩ | ⟨j, y, h1, h2, h3, _⟩
      · cases hw' : Pf.within ⟨a, 16⟩ x.w
        · exact .inr (.inl rfl)
        · simp only [Pf.within, Bool.and_eq_true] at hw'
          have := ((pf_ok_iff _).1 hw'.1.1.2).1.1
          omega
      · exact .inr (.inr ⟨j, y, h1, h2, by omega⟩)
  unfold FBest
  rw [key]
  exact h
theorem FBest.find {xs : List En} {a : Int} {bl vl : Int} (h : FBest xs a xs.length bl vl) (hv : tvalid xs = true) (ha : inB a 0 65535 = true) : tfind xs a = vl := by
  rw [tfind, hv, ha]
  simp only [Bool.and_self, if_true]
  rcases h with ⟨h1, _, h3⟩ | ⟨j, y, h1, h2, _, h4⟩
  · rw [h1, h3]; rfl
  · rw [h1, h4]
    simp only [valAt, Int.toNat_natCast, h2]
    rw [if_neg (by omega)]
set_option maxRecDepth 100000 in
set_option maxHeartbeats 4000000 in
theorem law_FnTableFind (bs : List Int) (v : Value) (w : World) (h : CodeAt w v bs) :
    Calls Try.prog 9 #[v] w fun e w' => e = .returned (.bool true) ∧ Below w.heap.size w w' := by
  have h' := h
  obtain ⟨a, cap, rfl, l1, l2, hx⟩ := code_cells h'
  clear hx h'
  unfold maxLen at l2
  by_cases hl : 1048576 < bs.length
  · go_enter Try.func9, Try.ntmps9
    go_wp2
    go_ret
    exact ⟨rfl, by (repeat' (first | with_reducible exact Below.refl _ _ | with_reducible assumption | with_reducible refine Below.setCell ?_ ?_ _ | with_reducible refine Below.alloc ?_ ?_ _ | with_reducible refine Below.drew ?_ | with_reducible refine belDrewN ?_ _ | with_reducible refine Below.trans ?_ (Below.mono (by assumption) ?_) | omega | (simp; omega) | (simp; done)))⟩
  · go_enter Try.func9, Try.ntmps9
    go_wp2_with fail
    refine (drawTF_any _ _ _ h).mono ?_
    rintro e w0 ⟨v0, ys, a, rfl, ho, hlen, hb0⟩
    have hz0 := hb0.size
    have hs := OwnEn.ens ho
    clear ho
    obtain ⟨sa, cap0, rfl, hlc, hcm, -⟩ := id hs
    unfold maxLen at hcm
    generalize hn : ys.length = n at *
    have HN := Lib.hid hn
    clear hn
    cases hv : tvalid ys
    · have hr : tfind ys a = -1 := by simp [tfind, hv]
      
      go_wp2_with fail; refine (implTF_b hs hr).mono ?_; rintro e w1 ⟨rfl, hb1⟩; obtain ⟨hc1, hf1⟩ := bcell hb1; have hz1 := hb1.size; (try simp at hz1); (try have hz1_w_0 : w.heap.size < w1.heap.size := (by omega)); (try have hz1_w_1 : w.heap.size + 1 < w1.heap.size := (by omega)); (try have hz1_w_2 : w.heap.size + 2 < w1.heap.size := (by omega)); (try have hz1_w0_0 : w0.heap.size < w1.heap.size := (by omega)); (try have hz1_w0_1 : w0.heap.size + 1 < w1.heap.size := (by omega)); (try have hz1_w0_2 : w0.heap.size + 2 < w1.heap.size := (by omega))
      go_wp2_with fail; refine (specTF_b (hs.below (by (repeat' (first | with_reducible exact Below.refl _ _ | with_reducible assumption | with_reducible refine Below.setCell ?_ ?_ _ | with_reducible refine Below.alloc ?_ ?_ _ | with_reducible refine Below.drew ?_ | with_reducible refine belDrewN ?_ _ | with_reducible refine Below.trans ?_ (Below.mono (by assumption) ?_) | omega | (simp; omega) | (simp; done))))) hr).mono ?_; rintro e w2 ⟨rfl, hb2⟩; obtain ⟨hc2, hf2⟩ := bcell hb2; have hz2 := hb2.size; (try simp at hz2); (try have hz2_w_0 : w.heap.size < w2.heap.size := (by omega)); (try have hz2_w_1 : w.heap.size + 1 < w2.heap.size := (by omega)); (try have hz2_w_2 : w.heap.size + 2 < w2.heap.size := (by omega)); (try have hz2_w0_0 : w0.heap.size < w2.heap.size := (by omega)); (try have hz2_w0_1 : w0.heap.size + 1 < w2.heap.size := (by omega)); (try have hz2_w0_2 : w0.heap.size + 2 < w2.heap.size := (by omega)); (try have hz2_w1_0 : w1.heap.size < w2.heap.size := (by omega)); (try have hz2_w1_1 : w1.heap.size + 1 < w2.heap.size := (by omega)); (try have hz2_w1_2 : w1.heap.size + 2 < w2.heap.size := (by omega))
      go_wp2_with fail; refine (specTV_b (hs.below (by (repeat' (first | with_reducible exact Below.refl _ _ | with_reducible assumption | with_reducible refine Below.setCell ?_ ?_ _ | with_reducible refine Below.alloc ?_ ?_ _ | with_reducible refine Below.drew ?_ | with_reducible refine belDrewN ?_ _ | with_reducible refine Below.trans ?_ (Below.mono (by assumption) ?_) | omega | (simp; omega) | (simp; done))))) hv).mono ?_; rintro e w3 ⟨rfl, hb3⟩; obtain ⟨hc3, hf3⟩ := bcell hb3; have hz3 := hb3.size; (try simp at hz3); (try have hz3_w_0 : w.heap.size < w3.heap.size := (by omega)); (try have hz3_w_1 : w.heap.size + 1 < w3.heap.size := (by omega)); (try have hz3_w_2 : w.heap.size + 2 < w3.heap.size := (by omega)); (try have hz3_w0_0 : w0.heap.size < w3.heap.size := (by omega)); (try have hz3_w0_1 : w0.heap.size + 1 < w3.heap.size := (by omega)); (try have hz3_w0_2 : w0.heap.size + 2 < w3.heap.size := (by omega)); (try have hz3_w1_0 : w1.heap.size < w3.heap.size := (by omega)); (try have hz3_w1_1 : w1.heap.size + 1 < w3.heap.size := (by omega)); (try have hz3_w1_2 : w1.heap.size + 2 < w3.heap.size := (by omega)); (try have hz3_w2_0 : w2.heap.size < w3.heap.size := (by omega)); (try have hz3_w2_1 : w2.heap.size + 1 < w3.heap.size := (by omega)); (try have hz3_w2_2 : w2.heap.size + 2 < w3.heap.size := (by omega))
      go_wp2_with fail; refine (alive_any _).mono ?_; rintro e w4 ⟨rfl, hb4⟩; obtain ⟨hc4, hf4⟩ := bcell hb4; have hz4 := hb4.size; (try simp at hz4); (try have hz4_w_0 : w.heap.size < w4.heap.size := (by omega)); (try have hz4_w_1 : w.heap.size + 1 < w4.heap.size := (by omega)); (try have hz4_w_2 : w.heap.size + 2 < w4.heap.size := (by omega)); (try have hz4_w0_0 : w0.heap.size < w4.heap.size := (by omega)); (try have hz4_w0_1 : w0.heap.size + 1 < w4.heap.size := (by omega)); (try have hz4_w0_2 : w0.heap.size + 2 < w4.heap.size := (by omega)); (try have hz4_w1_0 : w1.heap.size < w4.heap.size := (by omega)); (try have hz4_w1_1 : w1.heap.size + 1 < w4.heap.size := (by omega)); (try have hz4_w1_2 : w1.heap.size + 2 < w4.heap.size := (by omega)); (try have hz4_w2_0 : w2.heap.size < w4.heap.size := (by omega)); (try have hz4_w2_1 : w2.heap.size + 1 < w4.heap.size := (by omega)); (try have hz4_w2_2 : w2.heap.size + 2 < w4.heap.size := (by omega)); (try have hz4_w3_0 : w3.heap.size < w4.heap.size := (by omega)); (try have hz4_w3_1 : w3.heap.size + 1 < w4.heap.size := (by omega)); (try have hz4_w3_2 : w3.heap.size + 2 < w4.heap.size := (by omega))
      go_wp2
      go_ret
      exact ⟨rfl, by (repeat' (first | with_reducible exact Below.refl _ _ | with_reducible assumption | with_reducible refine Below.setCell ?_ ?_ _ | with_reducible refine Below.alloc ?_ ?_ _ | with_reducible refine Below.drew ?_ | with_reducible refine belDrewN ?_ _ | with_reducible refine Below.trans ?_ (Below.mono (by assumption) ?_) | omega | (simp; omega) | (simp; done)))⟩
    · by_cases ha : inB a 0 65535 = false
      · have hr : tfind ys a = -1 := by simp [tfind, ha]
        
        go_wp2_with fail; refine (implTF_b hs hr).mono ?_; rintro e w1 ⟨rfl, hb1⟩; obtain ⟨hc1, hf1⟩ := bcell hb1; have hz1 := hb1.size; (try simp at hz1); (try have hz1_w_0 : w.heap.size < w1.heap.size := (by omega)); (try have hz1_w_1 : w.heap.size + 1 < w1.heap.size := (by omega)); (try have hz1_w_2 : w.heap.size + 2 < w1.heap.size := (by omega)); (try have hz1_w0_0 : w0.heap.size < w1.heap.size := (by omega)); (try have hz1_w0_1 : w0.heap.size + 1 < w1.heap.size := (by omega)); (try have hz1_w0_2 : w0.heap.size + 2 < w1.heap.size := (by omega))
        go_wp2_with fail; refine (specTF_b (hs.below (by (repeat' (first | with_reducible exact Below.refl _ _ | with_reducible assumption | with_reducible refine Below.setCell ?_ ?_ _ | with_reducible refine Below.alloc ?_ ?_ _ | with_reducible refine Below.drew ?_ | with_reducible refine belDrewN ?_ _ | with_reducible refine Below.trans ?_ (Below.mono (by assumption) ?_) | omega | (simp; omega) | (simp; done))))) hr).mono ?_; rintro e w2 ⟨rfl, hb2⟩; obtain ⟨hc2, hf2⟩ := bcell hb2; have hz2 := hb2.size; (try simp at hz2); (try have hz2_w_0 : w.heap.size < w2.heap.size := (by omega)); (try have hz2_w_1 : w.heap.size + 1 < w2.heap.size := (by omega)); (try have hz2_w_2 : w.heap.size + 2 < w2.heap.size := (by omega)); (try have hz2_w0_0 : w0.heap.size < w2.heap.size := (by omega)); (try have hz2_w0_1 : w0.heap.size + 1 < w2.heap.size := (by omega)); (try have hz2_w0_2 : w0.heap.size + 2 < w2.heap.size := (by omega)); (try have hz2_w1_0 : w1.heap.size < w2.heap.size := (by omega)); (try have hz2_w1_1 : w1.heap.size + 1 < w2.heap.size := (by omega)); (try have hz2_w1_2 : w1.heap.size + 2 < w2.heap.size := (by omega))
        by_cases ha0 : a < 0
        · clear ha hr
          go_wp2_with fail; refine (specTV_b (hs.below (by (repeat' (first | with_reducible exact Below.refl _ _ | with_reducible assumption | with_reducible refine Below.setCell ?_ ?_ _ | with_reducible refine Below.alloc ?_ ?_ _ | with_reducible refine Below.drew ?_ | with_reducible refine belDrewN ?_ _ | with_reducible refine Below.trans ?_ (Below.mono (by assumption) ?_) | omega | (simp; omega) | (simp; done))))) hv).mono ?_; rintro e w3 ⟨rfl, hb3⟩; obtain ⟨hc3, hf3⟩ := bcell hb3; have hz3 := hb3.size; (try simp at hz3); (try have hz3_w_0 : w.heap.size < w3.heap.size := (by omega)); (try have hz3_w_1 : w.heap.size + 1 < w3.heap.size := (by omega)); (try have hz3_w_2 : w.heap.size + 2 < w3.heap.size := (by omega)); (try have hz3_w0_0 : w0.heap.size < w3.heap.size := (by omega)); (try have hz3_w0_1 : w0.heap.size + 1 < w3.heap.size := (by omega)); (try have hz3_w0_2 : w0.heap.size + 2 < w3.heap.size := (by omega)); (try have hz3_w1_0 : w1.heap.size < w3.heap.size := (by omega)); (try have hz3_w1_1 : w1.heap.size + 1 < w3.heap.size := (by omega)); (try have hz3_w1_2 : w1.heap.size + 2 < w3.heap.size := (by omega)); (try have hz3_w2_0 : w2.heap.size < w3.heap.size := (by omega)); (try have hz3_w2_1 : w2.heap.size + 1 < w3.heap.size := (by omega)); (try have hz3_w2_2 : w2.heap.size + 2 < w3.heap.size := (by omega))
          go_wp2_with fail; refine (alive_any _).mono ?_; rintro e w4 ⟨rfl, hb4⟩; obtain ⟨hc4, hf4⟩ := bcell hb4; have hz4 := hb4.size; (try simp at hz4); (try have hz4_w_0 : w.heap.size < w4.heap.size := (by omega)); (try have hz4_w_1 : w.heap.size + 1 < w4.heap.size := (by omega)); (try have hz4_w_2 : w.heap.size + 2 < w4.heap.size := (by omega)); (try have hz4_w0_0 : w0.heap.size < w4.heap.size := (by omega)); (try have hz4_w0_1 : w0.heap.size + 1 < w4.heap.size := (by omega)); (try have hz4_w0_2 : w0.heap.size + 2 < w4.heap.size := (by omega)); (try have hz4_w1_0 : w1.heap.size < w4.heap.size := (by omega)); (try have hz4_w1_1 : w1.heap.size + 1 < w4.heap.size := (by omega)); (try have hz4_w1_2 : w1.heap.size + 2 < w4.heap.size := (by omega)); (try have hz4_w2_0 : w2.heap.size < w4.heap.size := (by omega)); (try have hz4_w2_1 : w2.heap.size + 1 < w4.heap.size := (by omega)); (try have hz4_w2_2 : w2.heap.size + 2 < w4.heap.size := (by omega)); (try have hz4_w3_0 : w3.heap.size < w4.heap.size := (by omega)); (try have hz4_w3_1 : w3.heap.size + 1 < w4.heap.size := (by omega)); (try have hz4_w3_2 : w3.heap.size + 2 < w4.heap.size := (by omega))
          go_wp2
          go_ret
          exact ⟨rfl, by (repeat' (first | with_reducible exact Below.refl _ _ | with_reducible assumption | with_reducible refine Below.setCell ?_ ?_ _ | with_reducible refine Below.alloc ?_ ?_ _ | with_reducible refine Below.drew ?_ | with_reducible refine belDrewN ?_ _ | with_reducible refine Below.trans ?_ (Below.mono (by assumption) ?_) | omega | (simp; omega) | (simp; done)))⟩
        · have ha1 : 65535 < a := by
            refine Int.not_le.1 (fun hle => ?_)
            rw [inB_true (by omega) hle] at ha; cases ha
          clear ha hr
          go_wp2_with fail; refine (specTV_b (hs.below (by (repeat' (first | with_reducible exact Below.refl _ _ | with_reducible assumption | with_reducible refine Below.setCell ?_ ?_ _ | with_reducible refine Below.alloc ?_ ?_ _ | with_reducible refine Below.drew ?_ | with_reducible refine belDrewN ?_ _ | with_reducible refine Below.trans ?_ (Below.mono (by assumption) ?_) | omega | (simp; omega) | (simp; done))))) hv).mono ?_; rintro e w5 ⟨rfl, hb5⟩; obtain ⟨hc5, hf5⟩ := bcell hb5; have hz5 := hb5.size; (try simp at hz5); (try have hz5_w_0 : w.heap.size < w5.heap.size := (by omega)); (try have hz5_w_1 : w.heap.size + 1 < w5.heap.size := (by omega)); (try have hz5_w_2 : w.heap.size + 2 < w5.heap.size := (by omega)); (try have hz5_w0_0 : w0.heap.size < w5.heap.size := (by omega)); (try have hz5_w0_1 : w0.heap.size + 1 < w5.heap.size := (by omega)); (try have hz5_w0_2 : w0.heap.size + 2 < w5.heap.size := (by omega)); (try have hz5_w1_0 : w1.heap.size < w5.heap.size := (by omega)); (try have hz5_w1_1 : w1.heap.size + 1 < w5.heap.size := (by omega)); (try have hz5_w1_2 : w1.heap.size + 2 < w5.heap.size := (by omega)); (try have hz5_w2_0 : w2.heap.size < w5.heap.size := (by omega)); (try have hz5_w2_1 : w2.heap.size + 1 < w5.heap.size := (by omega)); (try have hz5_w2_2 : w2.heap.size + 2 < w5.heap.size := (by omega)); (try have hz5_w3_0 : w3.heap.size < w5.heap.size := (by omega)); (try have hz5_w3_1 : w3.heap.size + 1 < w5.heap.size := (by omega)); (try have hz5_w3_2 : w3.heap.size + 2 < w5.heap.size := (by omega)); (try have hz5_w4_0 : w4.heap.size < w5.heap.size := (by omega)); (try have hz5_w4_1 : w4.heap.size + 1 < w5.heap.size := (by omega)); (try have hz5_w4_2 : w4.heap.size + 2 < w5.heap.size := (by omega))
          go_wp2_with fail; refine (alive_any _).mono ?_; rintro e w6 ⟨rfl, hb6⟩; obtain ⟨hc6, hf6⟩ := bcell hb6; have hz6 := hb6.size; (try simp at hz6); (try have hz6_w_0 : w.heap.size < w6.heap.size := (by omega)); (try have hz6_w_1 : w.heap.size + 1 < w6.heap.size := (by omega)); (try have hz6_w_2 : w.heap.size + 2 < w6.heap.size := (by omega)); (try have hz6_w0_0 : w0.heap.size < w6.heap.size := (by omega)); (try have hz6_w0_1 : w0.heap.size + 1 < w6.heap.size := (by omega)); (try have hz6_w0_2 : w0.heap.size + 2 < w6.heap.size := (by omega)); (try have hz6_w1_0 : w1.heap.size < w6.heap.size := (by omega)); (try have hz6_w1_1 : w1.heap.size + 1 < w6.heap.size := (by omega)); (try have hz6_w1_2 : w1.heap.size + 2 < w6.heap.size := (by omega)); (try have hz6_w2_0 : w2.heap.size < w6.heap.size := (by omega)); (try have hz6_w2_1 : w2.heap.size + 1 < w6.heap.size := (by omega)); (try have hz6_w2_2 : w2.heap.size + 2 < w6.heap.size := (by omega)); (try have hz6_w3_0 : w3.heap.size < w6.heap.size := (by omega)); (try have hz6_w3_1 : w3.heap.size + 1 < w6.heap.size := (by omega)); (try have hz6_w3_2 : w3.heap.size + 2 < w6.heap.size := (by omega)); (try have hz6_w4_0 : w4.heap.size < w6.heap.size := (by omega)); (try have hz6_w4_1 : w4.heap.size + 1 < w6.heap.size := (by omega)); (try have hz6_w4_2 : w4.heap.size + 2 < w6.heap.size := (by omega)); (try have hz6_w5_0 : w5.heap.size < w6.heap.size := (by omega)); (try have hz6_w5_1 : w5.heap.size + 1 < w6.heap.size := (by omega)); (try have hz6_w5_2 : w5.heap.size + 2 < w6.heap.size := (by omega))
          go_wp2
          go_ret
          exact ⟨rfl, by (repeat' (first | with_reducible exact Below.refl _ _ | with_reducible assumption | with_reducible refine Below.setCell ?_ ?_ _ | with_reducible refine Below.alloc ?_ ?_ _ | with_reducible refine Below.drew ?_ | with_reducible refine belDrewN ?_ _ | with_reducible refine Below.trans ?_ (Below.mono (by assumption) ?_) | omega | (simp; omega) | (simp; done)))⟩
      · have ha' : inB a 0 65535 = true := by simpa using ha
        obtain ⟨ha0, ha1⟩ := inB_iff.1 ha'
        have HA := Lib.hid ha'
        obtain ⟨r, hr⟩ : ∃ r, tfind ys a = r := ⟨_, rfl⟩
        clear ha ha'
        
        go_wp2_with fail; refine (implTF_b hs hr).mono ?_; rintro e w1 ⟨rfl, hb1⟩; obtain ⟨hc1, hf1⟩ := bcell hb1; have hz1 := hb1.size; (try simp at hz1); (try have hz1_w_0 : w.heap.size < w1.heap.size := (by omega)); (try have hz1_w_1 : w.heap.size + 1 < w1.heap.size := (by omega)); (try have hz1_w_2 : w.heap.size + 2 < w1.heap.size := (by omega)); (try have hz1_w0_0 : w0.heap.size < w1.heap.size := (by omega)); (try have hz1_w0_1 : w0.heap.size + 1 < w1.heap.size := (by omega)); (try have hz1_w0_2 : w0.heap.size + 2 < w1.heap.size := (by omega))
        go_wp2_with fail; refine (specTF_b (hs.below (by (repeat' (first | with_reducible exact Below.refl _ _ | with_reducible assumption | with_reducible refine Below.setCell ?_ ?_ _ | with_reducible refine Below.alloc ?_ ?_ _ | with_reducible refine Below.drew ?_ | with_reducible refine belDrewN ?_ _ | with_reducible refine Below.trans ?_ (Below.mono (by assumption) ?_) | omega | (simp; omega) | (simp; done))))) hr).mono ?_; rintro e w2 ⟨rfl, hb2⟩; obtain ⟨hc2, hf2⟩ := bcell hb2; have hz2 := hb2.size; (try simp at hz2); (try have hz2_w_0 : w.heap.size < w2.heap.size := (by omega)); (try have hz2_w_1 : w.heap.size + 1 < w2.heap.size := (by omega)); (try have hz2_w_2 : w.heap.size + 2 < w2.heap.size := (by omega)); (try have hz2_w0_0 : w0.heap.size < w2.heap.size := (by omega)); (try have hz2_w0_1 : w0.heap.size + 1 < w2.heap.size := (by omega)); (try have hz2_w0_2 : w0.heap.size + 2 < w2.heap.size := (by omega)); (try have hz2_w1_0 : w1.heap.size < w2.heap.size := (by omega)); (try have hz2_w1_1 : w1.heap.size + 1 < w2.heap.size := (by omega)); (try have hz2_w1_2 : w1.heap.size + 2 < w2.heap.size := (by omega))
        go_wp2_with fail; refine (specTV_b (hs.below (by (repeat' (first | with_reducible exact Below.refl _ _ | with_reducible assumption | with_reducible refine Below.setCell ?_ ?_ _ | with_reducible refine Below.alloc ?_ ?_ _ | with_reducible refine Below.drew ?_ | with_reducible refine belDrewN ?_ _ | with_reducible refine Below.trans ?_ (Below.mono (by assumption) ?_) | omega | (simp; omega) | (simp; done))))) hv).mono ?_; rintro e w3 ⟨rfl, hb3⟩; obtain ⟨hc3, hf3⟩ := bcell hb3; have hz3 := hb3.size; (try simp at hz3); (try have hz3_w_0 : w.heap.size < w3.heap.size := (by omega)); (try have hz3_w_1 : w.heap.size + 1 < w3.heap.size := (by omega)); (try have hz3_w_2 : w.heap.size + 2 < w3.heap.size := (by omega)); (try have hz3_w0_0 : w0.heap.size < w3.heap.size := (by omega)); (try have hz3_w0_1 : w0.heap.size + 1 < w3.heap.size := (by omega)); (try have hz3_w0_2 : w0.heap.size + 2 < w3.heap.size := (by omega)); (try have hz3_w1_0 : w1.heap.size < w3.heap.size := (by omega)); (try have hz3_w1_1 : w1.heap.size + 1 < w3.heap.size := (by omega)); (try have hz3_w1_2 : w1.heap.size + 2 < w3.heap.size := (by omega)); (try have hz3_w2_0 : w2.heap.size < w3.heap.size := (by omega)); (try have hz3_w2_1 : w2.heap.size + 1 < w3.heap.size := (by omega)); (try have hz3_w2_2 : w2.heap.size + 2 < w3.heap.size := (by omega))
        have hw3 : Below w.heap.size w w3 := by (repeat' (first | with_reducible exact Below.refl _ _ | with_reducible assumption | with_reducible refine Below.setCell ?_ ?_ _ | with_reducible refine Below.alloc ?_ ?_ _ | with_reducible refine Below.drew ?_ | with_reducible refine belDrewN ?_ _ | with_reducible refine Below.trans ?_ (Below.mono (by assumption) ?_) | omega | (simp; omega) | (simp; done)))
        have hs3 : Ens w3 _ ys := hs.below (hb1.trans ((hb2.trans (hb3.mono hz2)).mono hz1))
        have HR := Lib.hid hr
        have HV := Lib.hid hv
        clear hr hv hb1 hb2 hb3 hc1 hc2 hc3 hf1 hf2 hf3 hs
        go_wp2_with fail
        go_loopw [6, 7, 8] (fun b v i wr => ∃ (k : Nat) (bl vl : Int), b = .int .i64 bl ∧ v = .int .i64 vl ∧ i = .int .i64 k ∧ k ≤ n ∧ FBest ys a k bl vl ∧ Below w3.heap.size w3 wr) (fun _ _ i _ => n - (intOf i).toNat)
        case atStart => exact ⟨0, -1, -1, rfl, rfl, rfl, by omega, .inl ⟨rfl, rfl, rfl⟩, Below.refl _ _⟩
        case round =>
          obtain ⟨k, bl, vl, rfl, rfl, rfl, kn, hP, hbr⟩ := hrel
          have HP := Lib.hid hP
          clear hP
          have hzr := hbr.size
          by_cases hlt : k < n
          · have hs4 := hs3.below hbr
            obtain ⟨b, o, f1, f2, f3, rfl, hbl, hx, c0, c1, c2⟩ := hs4.at (show k < ys.length by rw [HN.out]; exact hlt)
            have HX := Lib.hid hx; clear hx hs4
            have i1 : (k : Int) < (n : Int) := by omega
            cases hwi : Pf.within ⟨a, 16⟩ ⟨f1, f2⟩
            · go_wp2_with fail
              refine (implWithin_b hwi _).mono ?_
              rintro e w5 ⟨rfl, hb5⟩
              have hb5' : Below w3.heap.size w3 w5 := hbr.trans (hb5.mono hzr)
              clear hb5
              go_wp2_with fail
              go_roundw
              case rel => exact ⟨k + 1, bl, vl, rfl, rfl, by go_num, by omega, HP.out.same HX.out (.inl hwi), hb5'⟩
              case measure => simp [intOf]; omega
            · by_cases hgt : bl < f2
              · go_wp2_with fail
                refine (implWithin_b hwi _).mono ?_
                rintro e w5 ⟨rfl, hb5⟩
                have d0 := (hb5.cell (p := ⟨b, o + k * 3, none⟩) hbl).trans c0; have d1 := (hb5.cell (p := ⟨b, o + k * 3 + 1, none⟩) hbl).trans c1; have d2 := (hb5.cell (p := ⟨b, o + k * 3 + 2, none⟩) hbl).trans c2
                have hb5' : Below w3.heap.size w3 w5 := hbr.trans (hb5.mono hzr)
                clear hb5 c0 c1 c2
                go_wp2_with fail
                go_roundw
                case rel => exact ⟨k + 1, f2, f3, rfl, rfl, by go_num, by omega, HP.out.new HX.out hwi hgt, hb5'⟩
                case measure => simp [intOf]; omega
              · go_wp2_with fail
                refine (implWithin_b hwi _).mono ?_
                rintro e w5 ⟨rfl, hb5⟩
                have d0 := (hb5.cell (p := ⟨b, o + k * 3, none⟩) hbl).trans c0; have d1 := (hb5.cell (p := ⟨b, o + k * 3 + 1, none⟩) hbl).trans c1; have d2 := (hb5.cell (p := ⟨b, o + k * 3 + 2, none⟩) hbl).trans c2
                have hb5' : Below w3.heap.size w3 w5 := hbr.trans (hb5.mono hzr)
                clear hb5 c0 c1 c2
                go_wp2_with fail
                go_roundw
                case rel => exact ⟨k + 1, bl, vl, rfl, rfl, by go_num, by omega, HP.out.same HX.out (.inr (by simpa using hgt)), hb5'⟩
                case measure => simp [intOf]; omega
          · obtain rfl : k = n := by omega
            have he : r = vl := by
              have := HP.out
              rw [← HN.out] at this
              exact HR.out.symm.trans (this.find HV.out HA.out)
            subst he
            go_wp2_with fail
            go_ret
            exact ⟨rfl, hw3.trans (hbr.mono hw3.size)⟩
end Go.Proofs.Ytfnfpekjjmejnaa
