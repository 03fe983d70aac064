/- The law FnFlowsValid: the walk. -/
import Derived.Test.YtlppchkilinpfaaDoorRdFV
import Derived.Test.YtlppchkilinpfaaDoorFlP
import Derived.Test.YtlppchkilinpfaaDoorRdRev
import Derived.Test.YtlppchkilinpfaaDoorReg2
import Derived.Test.YtlppchkilinpfaaDoorSlF
import Derived.Test.YtlppchkilinpfaaDoorLFlE
import Derived.Deep.AppendLies
import Derived.ArgAppend
namespace Go.Proofs.YtlppchkilinpfaaDoor
open Go.RowKit
abbrev WV2 := List Bool → World → Value → Prop
def GIs (c : Value) : WV2 := fun _ _ v => v = c
/-- Known until operation 17 has come up. -/
def GTill (p : World → Value → Prop) : WV2 := fun L w v => L[17]? = some true ∨ p w v
def GW (p : World → Value → Prop) : WV2 := fun _ w v => p w v
def Gof (Fs : List WV2) (L : List Bool) (i : Nat) (w : World) (v : Value) : Prop := match Fs[i]? with
  | some f => f L w v
  | none => True
def BSt (p : World → Value → Prop) : Prop := ∀ w w' v, Below w.heap.size w w' → p w v → p w' v
def GStb (f : WV2) : Prop := ∀ L i w w' v, Below w.heap.size w w' → f L w v → f (L.set i true) w' v
theorem gstb_is (c : Value) : GStb (GIs c) := fun _ _ _ _ _ _ h => h
theorem gstb_w {p : World → Value → Prop} (hp : BSt p) : GStb (GW p) := fun _ _ w w' v hb h => hp w w' v hb h
theorem set_keeps {L : List Bool} {i k : Nat} (h : L[k]? = some true) : (L.set i true)[k]? = some true := by
  by_cases e : i = k
  · subst e
    rw [List.getElem?_set_self (List.getElem?_eq_some_iff.1 h).1]
  · rw [List.getElem?_set_ne e]; exact h
theorem gstb_till {p : World → Value → Prop} (hp : BSt p) : GStb (GTill p) := fun _ _ w w' v hb h => h.elim (fun h => .inl (set_keeps h)) (fun h => .inr (hp w w' v hb h))
def GAll : List WV2 → Prop
  | [] => True
  | f :: Fs => GStb f ∧ GAll Fs
theorem gof_stb : ∀ (Fs : List WV2), GAll Fs → ∀ (L : List Bool) (i j : Nat) (w w' : World) (v : Value), Below w.heap.size w w' → Gof Fs L j w v → Gof Fs (L.set i true) j w' v
  | [], _, _, _, _, _, _, _, _, h => h
  | _ :: _, hs, L, i, 0, w, w', v, hb, h => hs.1 L i w w' v hb h
  | _ :: Fs, hs, L, i, j + 1, w, w', v, hb, h => gof_stb Fs hs.2 L i j w w' v hb h
/-- Operation 17 comes up: what is known of the others. -/
def G17 : List WV2 → Nat → Prop
  | [], _ => True
  | f :: Fs, j => (j ≠ 17 → ∀ (L : List Bool) w w' v, L[17]? = some false → f L w v → f (L.set 17 true) w' v) ∧ G17 Fs (j + 1)
theorem gof_17 : ∀ (Fs : List WV2) (k : Nat), G17 Fs k → ∀ (L : List Bool) (j : Nat) (w w' : World) (v : Value), j + k ≠ 17 → L[17]? = some false → Gof Fs L j w v → Gof Fs (L.set 17 true) j w' v
  | [], _, _, _, _, _, _, _, _, _, h => h
  | _ :: _, k, hs, L, 0, w, w', v, hj, hL, h => hs.1 (by omega) L w w' v hL h
  | _ :: Fs, k, hs, L, j + 1, w, w', v, hj, hL, h => gof_17 Fs (k + 1) hs.2 L j w w' v (by omega) hL h
theorem g17_is (c : Value) (j : Nat) : j ≠ 17 → ∀ (L : List Bool) w w' v, L[17]? = some false → GIs c L w v → GIs c (L.set 17 true) w' v := fun _ _ _ _ _ _ h => h
theorem g17_till (p : World → Value → Prop) (j : Nat) : j ≠ 17 → ∀ (L : List Bool) w w' v, L[17]? = some false → GTill p L w v → GTill p (L.set 17 true) w' v :=
  fun _ L _ _ _ hL _ => .inl (by rw [List.getElem?_set_self (List.getElem?_eq_some_iff.1 hL).1])
theorem step2 {P : Program} {l : List Oper} {C : List Bool → World → Prop} {F : List Bool → Nat → World → Value → Prop} {fr : (Nat → Value) → Act} {i : Nat} {o : Oper}
    (h : ∀ (L : List Bool) (u : Nat → Value) (w : World), L[i]? = some false → C L w → (∀ j, depOn o j = true → L[j]? = some true ∧ F L j w (u j)) →
      Region.wanted o (yielded l.toArray (fr u).tmps) = true ∧ ∀ (Q : Exit → Act → World → Prop) (K : Act → World → Prop),
        (∀ a' w', a' = (fr u).put o.dst (slotOf o.dst a') → C (L.set i true) w' → F (L.set i true) i w' (slotOf o.dst a') → (∀ j x, j ≠ i → L[j]? = some true → F L j w x → F (L.set i true) j w' x) → K a' w') → o.wp P (fr u) w K Q) :
    StepOk2 P l C F fr i o := fun L u w h1 h2 h3 => ⟨fun _ => (h L u w h1 h2 h3).2, fun hw => by rw [(h L u w h1 h2 h3).1] at hw; cases hw⟩
theorem gis {c : Value} {L : List Bool} {w : World} {v : Value} (h : GIs c L w v) : v = c := h
def EmptyV (v : Value) : Prop := ∃ a, v = .slice (some a) 0 0
def LitFl (z : Fl) (w : World) (v : Value) : Prop := ∃ g, v = .slice (some ⟨g, 0, none⟩) 1 1 ∧ g < w.heap.size ∧ CellsAt w g 0 (Fl.enc z)
theorem litFl_st (z : Fl) : BSt (LitFl z) := fun _ _ _ hb ⟨g, h1, h2, h3⟩ => ⟨g, h1, Nat.lt_of_lt_of_le h2 hb.size, h3.below h2 hb⟩
set_option maxRecDepth 100000 in
set_option maxHeartbeats 4000000 in
theorem law_FnFlowsValid (bs : List Int) (v : Value) (w : World) (h : CodeAt w v bs) (ht : Tab w) :
    Calls Tryd.prog 7 #[v] w fun e w' => e = .returned (.bool true) ∧ Below w.heap.size w w' := by
  have h' := h
  obtain ⟨a, cap, rfl, l1, l2, hx⟩ := code_cells h'
  clear hx h'
  unfold maxLen at l2
  by_cases hl : 1048576 < bs.length
  · go_enter Tryd.func7, Tryd.ntmps7
    go_wp2
    go_ret
    exact ⟨rfl, by (repeat' (first | with_reducible exact Below.refl _ _ | with_reducible assumption | with_reducible refine Below.setCell ?_ ?_ _ | with_reducible refine Below.alloc ?_ ?_ _ | with_reducible refine Below.drew ?_ | with_reducible refine belDrewN ?_ _ | with_reducible refine Below.trans ?_ (Below.mono (by assumption) ?_) | omega | (simp; omega) | (simp; done)))⟩
  · go_enter Tryd.func7, Tryd.ntmps7
    go_wp2_with fail
    refine (drawFV_any _ _ _ h).mono ?_
    rintro e w0 ⟨v0, ys, rfl, ho, hlen, hb0⟩
    have hz0 := hb0.size
    have hs := OwnFl.fls ho
    clear ho
    obtain ⟨sa, cap0, rfl, hlc, hcm, -⟩ := id hs
    unfold maxLen at hcm
    generalize hn : ys.length = n at *
    have HN := Lib.hid hn
    clear hn
    cases hv : fvalid ys
    · 
      go_wp2_with fail; refine (implFV_b hs (ht.below (by (repeat' (first | with_reducible exact Below.refl _ _ | with_reducible assumption | with_reducible refine Below.setCell ?_ ?_ _ | with_reducible refine Below.alloc ?_ ?_ _ | with_reducible refine Below.drew ?_ | with_reducible refine belDrewN ?_ _ | with_reducible refine Below.trans ?_ (Below.mono (by assumption) ?_) | omega | (simp; omega) | (simp; done))))) hv).mono ?_; rintro e w1 ⟨rfl, hb1⟩; obtain ⟨hc1, hf1⟩ := bcell hb1; have hz1 := hb1.size; (try simp at hz1); (try have hz1_w_0 : w.heap.size < w1.heap.size := (by omega)); (try have hz1_w_1 : w.heap.size + 1 < w1.heap.size := (by omega)); (try have hz1_w_2 : w.heap.size + 2 < w1.heap.size := (by omega)); (try have hz1_w0_0 : w0.heap.size < w1.heap.size := (by omega)); (try have hz1_w0_1 : w0.heap.size + 1 < w1.heap.size := (by omega)); (try have hz1_w0_2 : w0.heap.size + 2 < w1.heap.size := (by omega))
      go_wp2_with fail; refine (specFV_b (hs.below (by (repeat' (first | with_reducible exact Below.refl _ _ | with_reducible assumption | with_reducible refine Below.setCell ?_ ?_ _ | with_reducible refine Below.alloc ?_ ?_ _ | with_reducible refine Below.drew ?_ | with_reducible refine belDrewN ?_ _ | with_reducible refine Below.trans ?_ (Below.mono (by assumption) ?_) | omega | (simp; omega) | (simp; done))))) hv).mono ?_; rintro e w2 ⟨rfl, hb2⟩; obtain ⟨hc2, hf2⟩ := bcell hb2; have hz2 := hb2.size; (try simp at hz2); (try have hz2_w_0 : w.heap.size < w2.heap.size := (by omega)); (try have hz2_w_1 : w.heap.size + 1 < w2.heap.size := (by omega)); (try have hz2_w_2 : w.heap.size + 2 < w2.heap.size := (by omega)); (try have hz2_w0_0 : w0.heap.size < w2.heap.size := (by omega)); (try have hz2_w0_1 : w0.heap.size + 1 < w2.heap.size := (by omega)); (try have hz2_w0_2 : w0.heap.size + 2 < w2.heap.size := (by omega)); (try have hz2_w1_0 : w1.heap.size < w2.heap.size := (by omega)); (try have hz2_w1_1 : w1.heap.size + 1 < w2.heap.size := (by omega)); (try have hz2_w1_2 : w1.heap.size + 2 < w2.heap.size := (by omega))
      go_wp2_with fail; refine (alive_any _).mono ?_; rintro e w3 ⟨rfl, hb3⟩; obtain ⟨hc3, hf3⟩ := bcell hb3; have hz3 := hb3.size; (try simp at hz3); (try have hz3_w_0 : w.heap.size < w3.heap.size := (by omega)); (try have hz3_w_1 : w.heap.size + 1 < w3.heap.size := (by omega)); (try have hz3_w_2 : w.heap.size + 2 < w3.heap.size := (by omega)); (try have hz3_w0_0 : w0.heap.size < w3.heap.size := (by omega)); (try have hz3_w0_1 : w0.heap.size + 1 < w3.heap.size := (by omega)); (try have hz3_w0_2 : w0.heap.size + 2 < w3.heap.size := (by omega)); (try have hz3_w1_0 : w1.heap.size < w3.heap.size := (by omega)); (try have hz3_w1_1 : w1.heap.size + 1 < w3.heap.size := (by omega)); (try have hz3_w1_2 : w1.heap.size + 2 < w3.heap.size := (by omega)); (try have hz3_w2_0 : w2.heap.size < w3.heap.size := (by omega)); (try have hz3_w2_1 : w2.heap.size + 1 < w3.heap.size := (by omega)); (try have hz3_w2_2 : w2.heap.size + 2 < w3.heap.size := (by omega))
      go_wp2
      go_ret
      exact ⟨rfl, by (repeat' (first | with_reducible exact Below.refl _ _ | with_reducible assumption | with_reducible refine Below.setCell ?_ ?_ _ | with_reducible refine Below.alloc ?_ ?_ _ | with_reducible refine Below.drew ?_ | with_reducible refine belDrewN ?_ _ | with_reducible refine Below.trans ?_ (Below.mono (by assumption) ?_) | omega | (simp; omega) | (simp; done)))⟩
    · by_cases h0 : n = 0
      · subst h0
        
        go_wp2_with fail; refine (implFV_b hs (ht.below (by (repeat' (first | with_reducible exact Below.refl _ _ | with_reducible assumption | with_reducible refine Below.setCell ?_ ?_ _ | with_reducible refine Below.alloc ?_ ?_ _ | with_reducible refine Below.drew ?_ | with_reducible refine belDrewN ?_ _ | with_reducible refine Below.trans ?_ (Below.mono (by assumption) ?_) | omega | (simp; omega) | (simp; done))))) hv).mono ?_; rintro e w1 ⟨rfl, hb1⟩; obtain ⟨hc1, hf1⟩ := bcell hb1; have hz1 := hb1.size; (try simp at hz1); (try have hz1_w_0 : w.heap.size < w1.heap.size := (by omega)); (try have hz1_w_1 : w.heap.size + 1 < w1.heap.size := (by omega)); (try have hz1_w_2 : w.heap.size + 2 < w1.heap.size := (by omega)); (try have hz1_w0_0 : w0.heap.size < w1.heap.size := (by omega)); (try have hz1_w0_1 : w0.heap.size + 1 < w1.heap.size := (by omega)); (try have hz1_w0_2 : w0.heap.size + 2 < w1.heap.size := (by omega))
        go_wp2_with fail; refine (specFV_b (hs.below (by (repeat' (first | with_reducible exact Below.refl _ _ | with_reducible assumption | with_reducible refine Below.setCell ?_ ?_ _ | with_reducible refine Below.alloc ?_ ?_ _ | with_reducible refine Below.drew ?_ | with_reducible refine belDrewN ?_ _ | with_reducible refine Below.trans ?_ (Below.mono (by assumption) ?_) | omega | (simp; omega) | (simp; done))))) hv).mono ?_; rintro e w2 ⟨rfl, hb2⟩; obtain ⟨hc2, hf2⟩ := bcell hb2; have hz2 := hb2.size; (try simp at hz2); (try have hz2_w_0 : w.heap.size < w2.heap.size := (by omega)); (try have hz2_w_1 : w.heap.size + 1 < w2.heap.size := (by omega)); (try have hz2_w_2 : w.heap.size + 2 < w2.heap.size := (by omega)); (try have hz2_w0_0 : w0.heap.size < w2.heap.size := (by omega)); (try have hz2_w0_1 : w0.heap.size + 1 < w2.heap.size := (by omega)); (try have hz2_w0_2 : w0.heap.size + 2 < w2.heap.size := (by omega)); (try have hz2_w1_0 : w1.heap.size < w2.heap.size := (by omega)); (try have hz2_w1_1 : w1.heap.size + 1 < w2.heap.size := (by omega)); (try have hz2_w1_2 : w1.heap.size + 2 < w2.heap.size := (by omega))
        go_wp2_with fail; refine (alive_any _).mono ?_; rintro e w3 ⟨rfl, hb3⟩; obtain ⟨hc3, hf3⟩ := bcell hb3; have hz3 := hb3.size; (try simp at hz3); (try have hz3_w_0 : w.heap.size < w3.heap.size := (by omega)); (try have hz3_w_1 : w.heap.size + 1 < w3.heap.size := (by omega)); (try have hz3_w_2 : w.heap.size + 2 < w3.heap.size := (by omega)); (try have hz3_w0_0 : w0.heap.size < w3.heap.size := (by omega)); (try have hz3_w0_1 : w0.heap.size + 1 < w3.heap.size := (by omega)); (try have hz3_w0_2 : w0.heap.size + 2 < w3.heap.size := (by omega)); (try have hz3_w1_0 : w1.heap.size < w3.heap.size := (by omega)); (try have hz3_w1_1 : w1.heap.size + 1 < w3.heap.size := (by omega)); (try have hz3_w1_2 : w1.heap.size + 2 < w3.heap.size := (by omega)); (try have hz3_w2_0 : w2.heap.size < w3.heap.size := (by omega)); (try have hz3_w2_1 : w2.heap.size + 1 < w3.heap.size := (by omega)); (try have hz3_w2_2 : w2.heap.size + 2 < w3.heap.size := (by omega))
        go_wp2
        go_ret
        exact ⟨rfl, by (repeat' (first | with_reducible exact Below.refl _ _ | with_reducible assumption | with_reducible refine Below.setCell ?_ ?_ _ | with_reducible refine Below.alloc ?_ ?_ _ | with_reducible refine Below.drew ?_ | with_reducible refine belDrewN ?_ _ | with_reducible refine Below.trans ?_ (Below.mono (by assumption) ?_) | omega | (simp; omega) | (simp; done)))⟩
      · 
        go_wp2_with fail; refine (implFV_b hs (ht.below (by (repeat' (first | with_reducible exact Below.refl _ _ | with_reducible assumption | with_reducible refine Below.setCell ?_ ?_ _ | with_reducible refine Below.alloc ?_ ?_ _ | with_reducible refine Below.drew ?_ | with_reducible refine belDrewN ?_ _ | with_reducible refine Below.trans ?_ (Below.mono (by assumption) ?_) | omega | (simp; omega) | (simp; done))))) hv).mono ?_; rintro e w1 ⟨rfl, hb1⟩; obtain ⟨hc1, hf1⟩ := bcell hb1; have hz1 := hb1.size; (try simp at hz1); (try have hz1_w_0 : w.heap.size < w1.heap.size := (by omega)); (try have hz1_w_1 : w.heap.size + 1 < w1.heap.size := (by omega)); (try have hz1_w_2 : w.heap.size + 2 < w1.heap.size := (by omega)); (try have hz1_w0_0 : w0.heap.size < w1.heap.size := (by omega)); (try have hz1_w0_1 : w0.heap.size + 1 < w1.heap.size := (by omega)); (try have hz1_w0_2 : w0.heap.size + 2 < w1.heap.size := (by omega))
        go_wp2_with fail; refine (specFV_b (hs.below (by (repeat' (first | with_reducible exact Below.refl _ _ | with_reducible assumption | with_reducible refine Below.setCell ?_ ?_ _ | with_reducible refine Below.alloc ?_ ?_ _ | with_reducible refine Below.drew ?_ | with_reducible refine belDrewN ?_ _ | with_reducible refine Below.trans ?_ (Below.mono (by assumption) ?_) | omega | (simp; omega) | (simp; done))))) hv).mono ?_; rintro e w2 ⟨rfl, hb2⟩; obtain ⟨hc2, hf2⟩ := bcell hb2; have hz2 := hb2.size; (try simp at hz2); (try have hz2_w_0 : w.heap.size < w2.heap.size := (by omega)); (try have hz2_w_1 : w.heap.size + 1 < w2.heap.size := (by omega)); (try have hz2_w_2 : w.heap.size + 2 < w2.heap.size := (by omega)); (try have hz2_w0_0 : w0.heap.size < w2.heap.size := (by omega)); (try have hz2_w0_1 : w0.heap.size + 1 < w2.heap.size := (by omega)); (try have hz2_w0_2 : w0.heap.size + 2 < w2.heap.size := (by omega)); (try have hz2_w1_0 : w1.heap.size < w2.heap.size := (by omega)); (try have hz2_w1_1 : w1.heap.size + 1 < w2.heap.size := (by omega)); (try have hz2_w1_2 : w1.heap.size + 2 < w2.heap.size := (by omega))
        have hq2 : Below w0.heap.size w0 w2 := hb1.trans (hb2.mono hz1)
        have hw2 : Below w.heap.size w w2 := hb0.trans (hq2.mono hz0)
        have hs2 := hs.below hq2
        have ht2 := Lib.hid (ht.below hw2)
        obtain ⟨b, o, f1, f2, f3, f4, t, rfl, hbl, hx, c0, c1, c2, c3, c4⟩ := hs2.at (show 0 < ys.length by rw [HN.out]; omega)
        simp only [Nat.zero_mul, Nat.add_zero] at c0 c1 c2 c3 c4
        have k0 := c0; have k1 := c1; have k2 := c2; have k3 := c3
        have HX := Lib.hid hx
        have HV := Lib.hid hv
        have HS2 := Lib.hid hs2
        obtain ⟨⟨r1, r2, r3, r4⟩, hrv⟩ : ∃ y, Pk.revv ⟨f1, f2, f3, f4⟩ = y := ⟨_, rfl⟩
        have HRV := Lib.hid hrv
        have HM := Lib.hid (show fvalid (ys ++ [⟨⟨r1, r2, r3, r4⟩, 0⟩]) = false by rw [← hrv]; exact fvalid_more hv hx 0)
        obtain ⟨hh, hhe⟩ : ∃ hh : Nat, hh = n / 2 := ⟨_, rfl⟩
        have HH := Lib.hid (show fvalid (ys.take hh) = true from fvalid_take hv hh)
        have HSH := Lib.hid (show Fls w2 (.slice (some ⟨b, o, none⟩) hh cap0) (ys.take hh) by
          obtain ⟨a', cap', he, k1, k2, k3⟩ := hs2
          obtain ⟨rfl, hl', rfl⟩ := Value.slice.inj he
          refine ⟨_, _, by rw [List.length_take, HN.out, Nat.min_eq_left (by omega)], by rw [List.length_take]; omega, k2, fun k x hk => k3 k x ?_⟩
          have : k < hh := by have := (List.getElem?_eq_some_iff.1 hk).1; rw [List.length_take] at this; omega
          rwa [List.getElem?_take_of_lt this] at hk)
        have hdiv : (n : Int) / 2 = (hh : Int) := by omega
        have hh0 : (0 : Int) ≤ (hh : Int) := by omega
        have hh1 : (hh : Int) ≤ (n : Int) := by omega
        have hh2 : (hh : Int) ≤ (cap0 : Int) := by omega
        have hn0 : (0 : Int) < (n : Int) := by omega
        clear hx hv hs2 hrv hhe hq2 hs hb1 hb2 hc1 hf1 hc2 hf2
        go_upto_region 9 with (fail)
        refine wp_region_rel2 (fun _ x => Below w2.heap.size w2 x)
          (fun L i x y => Gof [GIs (.slice (some ⟨b, o, none⟩) n cap0), GIs (.slice (some ⟨b, o, none⟩) n cap0), GIs (.int .i64 n), GIs (.int .i64 hh), GIs (.slice (some ⟨b, o, none⟩) hh cap0), GIs (.bool true), GIs (.bool true), GW (fun _ y => EmptyV y), GIs (.slice (some ⟨b, o, none⟩) n cap0), GTill (fun x y => OwnFl w2.heap.size x y ys), GIs (.slice (some ⟨b, o, none⟩) n cap0), GIs (.pointer (some ⟨b, o, none⟩)), GIs (.pointer (some ⟨b, o, none⟩)), GIs (.agg #[.int .i64 f1, .int .i64 f2, .int .i64 f3, .int .i64 f4]), GIs (.agg #[.int .i64 r1, .int .i64 r2, .int .i64 r3, .int .i64 r4]), GIs (.agg #[.int .i64 r1, .int .i64 r2, .int .i64 r3, .int .i64 r4, .int .i64 0]), GTill (LitFl ⟨⟨r1, r2, r3, r4⟩, 0⟩), GW (fun x y => OwnFl w2.heap.size x y (ys ++ [⟨⟨r1, r2, r3, r4⟩, 0⟩])), GIs (.bool false), GIs (.bool true), GIs (.bool true), GIs (.bool true)] L i x y)
          (by kernel_rfl) (fun u => by simp only [frU, Act.put, List.setIfInBounds_toArray, List.set_cons_succ, List.set_cons_zero, Nat.zero_add, Nat.reduceAdd]; exact rfl) (by kernel_rfl) ?h0 ?hs ?hend
        case h0 => exact ⟨rfl, rfl, rfl, Nat.le_refl _, fun _ _ => rfl⟩
        case hs =>
          have hG : GAll [GIs (.slice (some ⟨b, o, none⟩) n cap0), GIs (.slice (some ⟨b, o, none⟩) n cap0), GIs (.int .i64 n), GIs (.int .i64 hh), GIs (.slice (some ⟨b, o, none⟩) hh cap0), GIs (.bool true), GIs (.bool true), GW (fun _ y => EmptyV y), GIs (.slice (some ⟨b, o, none⟩) n cap0), GTill (fun x y => OwnFl w2.heap.size x y ys), GIs (.slice (some ⟨b, o, none⟩) n cap0), GIs (.pointer (some ⟨b, o, none⟩)), GIs (.pointer (some ⟨b, o, none⟩)), GIs (.agg #[.int .i64 f1, .int .i64 f2, .int .i64 f3, .int .i64 f4]), GIs (.agg #[.int .i64 r1, .int .i64 r2, .int .i64 r3, .int .i64 r4]), GIs (.agg #[.int .i64 r1, .int .i64 r2, .int .i64 r3, .int .i64 r4, .int .i64 0]), GTill (LitFl ⟨⟨r1, r2, r3, r4⟩, 0⟩), GW (fun x y => OwnFl w2.heap.size x y (ys ++ [⟨⟨r1, r2, r3, r4⟩, 0⟩])), GIs (.bool false), GIs (.bool true), GIs (.bool true), GIs (.bool true)] := ⟨gstb_is _, gstb_is _, gstb_is _, gstb_is _, gstb_is _, gstb_is _, gstb_is _, gstb_w (fun _ _ _ _ h => h), gstb_is _, gstb_till (fun _ _ _ hb h => OwnFl.below h hb), gstb_is _, gstb_is _, gstb_is _, gstb_is _, gstb_is _, gstb_is _, gstb_till (litFl_st _), gstb_w (fun _ _ _ hb h => OwnFl.below h hb), gstb_is _, gstb_is _, gstb_is _, gstb_is _, trivial⟩
          have hS : G17 [GIs (.slice (some ⟨b, o, none⟩) n cap0), GIs (.slice (some ⟨b, o, none⟩) n cap0), GIs (.int .i64 n), GIs (.int .i64 hh), GIs (.slice (some ⟨b, o, none⟩) hh cap0), GIs (.bool true), GIs (.bool true), GW (fun _ y => EmptyV y), GIs (.slice (some ⟨b, o, none⟩) n cap0), GTill (fun x y => OwnFl w2.heap.size x y ys), GIs (.slice (some ⟨b, o, none⟩) n cap0), GIs (.pointer (some ⟨b, o, none⟩)), GIs (.pointer (some ⟨b, o, none⟩)), GIs (.agg #[.int .i64 f1, .int .i64 f2, .int .i64 f3, .int .i64 f4]), GIs (.agg #[.int .i64 r1, .int .i64 r2, .int .i64 r3, .int .i64 r4]), GIs (.agg #[.int .i64 r1, .int .i64 r2, .int .i64 r3, .int .i64 r4, .int .i64 0]), GTill (LitFl ⟨⟨r1, r2, r3, r4⟩, 0⟩), GW (fun x y => OwnFl w2.heap.size x y (ys ++ [⟨⟨r1, r2, r3, r4⟩, 0⟩])), GIs (.bool false), GIs (.bool true), GIs (.bool true), GIs (.bool true)] 0 := ⟨g17_is _ _, g17_is _ _, g17_is _ _, g17_is _ _, g17_is _ _, g17_is _ _, g17_is _ _, (fun _ _ _ _ _ _ h => h), g17_is _ _, g17_till _ _, g17_is _ _, g17_is _ _, g17_is _ _, g17_is _ _, g17_is _ _, g17_is _ _, g17_till _ _, (fun h => absurd rfl h), g17_is _ _, g17_is _ _, g17_is _ _, g17_is _ _, trivial⟩
          clear c0 c1 c2 c3 c4
          refine ⟨?_, ?_, ?_, ?_, ?_, ?_, ?_, ?_, ?_, ?_, ?_, ?_, ?_, ?_, ?_, ?_, ?_, ?_, ?_, ?_, ?_, ?_, trivial⟩
          · refine step2 (fun L u w3 hL hC hd => ?_)
            refine ⟨rfl, fun Q K hK => ?_⟩
            clear hd
            go_step
            exact hK _ _ rfl hC rfl (fun j x hj hL9 h9 => gof_stb _ hG L 0 j _ _ _ (Below.refl _ _) h9)
          · refine step2 (fun L u w3 hL hC hd => ?_)
            refine ⟨rfl, fun Q K hK => ?_⟩
            clear hd
            go_step
            exact hK _ _ rfl hC rfl (fun j x hj hL9 h9 => gof_stb _ hG L 1 j _ _ _ (Below.refl _ _) h9)
          · refine step2 (fun L u w3 hL hC hd => ?_)
            refine ⟨rfl, fun Q K hK => ?_⟩
            have hu1 := gis (L := L) (w := w3) (hd 1 rfl).2
            rw [hu1] at hK ⊢
            clear hd
            go_step
            exact hK _ _ rfl hC rfl (fun j x hj hL9 h9 => gof_stb _ hG L 2 j _ _ _ (Below.refl _ _) h9)
          · refine step2 (fun L u w3 hL hC hd => ?_)
            refine ⟨rfl, fun Q K hK => ?_⟩
            have hu2 := gis (L := L) (w := w3) (hd 2 rfl).2
            rw [hu2] at hK ⊢
            clear hd
            go_step
            exact hK _ _ rfl hC rfl (fun j x hj hL9 h9 => gof_stb _ hG L 3 j _ _ _ (Below.refl _ _) h9)
          · refine step2 (fun L u w3 hL hC hd => ?_)
            refine ⟨rfl, fun Q K hK => ?_⟩
            have hu0 := gis (L := L) (w := w3) (hd 0 rfl).2
            rw [hu0] at hK ⊢
            have hu3 := gis (L := L) (w := w3) (hd 3 rfl).2
            rw [hu3] at hK ⊢
            clear hd
            go_step
            exact hK _ _ rfl hC rfl (fun j x hj hL9 h9 => gof_stb _ hG L 4 j _ _ _ (Below.refl _ _) h9)
          · refine step2 (fun L u w3 hL hC hd => ?_)
            refine ⟨rfl, fun Q K hK => ?_⟩
            have hu4 := gis (L := L) (w := w3) (hd 4 rfl).2
            rw [hu4] at hK ⊢
            clear hd
            go_step
            refine (implFV_b (HSH.out.below hC) (ht2.out.below hC) HH.out).mono ?_
            rintro e w4 ⟨rfl, hb⟩
            exact hK _ _ rfl (hC.trans (hb.mono hC.size)) rfl (fun j x hj hL9 h9 => gof_stb _ hG L 5 j _ _ _ hb h9)
          · refine step2 (fun L u w3 hL hC hd => ?_)
            refine ⟨rfl, fun Q K hK => ?_⟩
            have hu5 := gis (L := L) (w := w3) (hd 5 rfl).2
            rw [hu5] at hK ⊢
            clear hd
            go_step
            exact hK _ _ rfl hC rfl (fun j x hj hL9 h9 => gof_stb _ hG L 6 j _ _ _ (Below.refl _ _) h9)
          · refine step2 (fun L u w3 hL hC hd => ?_)
            have hu6 := gis (L := L) (w := w3) (hd 6 rfl).2
            refine ⟨by simp [Region.wanted, yielded, hu6], fun Q K hK => ?_⟩
            clear hd
            go_step
            exact hK _ _ rfl (hC.alloc hC.size _) ⟨_, rfl⟩ (fun j x hj hL9 h9 => gof_stb _ hG L 7 j _ _ _ ((Below.refl _ _).alloc (Nat.le_refl _) _) h9)
          · refine step2 (fun L u w3 hL hC hd => ?_)
            have hu6 := gis (L := L) (w := w3) (hd 6 rfl).2
            refine ⟨by simp [Region.wanted, yielded, hu6], fun Q K hK => ?_⟩
            clear hd
            go_step
            exact hK _ _ rfl hC rfl (fun j x hj hL9 h9 => gof_stb _ hG L 8 j _ _ _ (Below.refl _ _) h9)
          · refine step2 (fun L u w3 hL hC hd => ?_)
            have hu6 := gis (L := L) (w := w3) (hd 6 rfl).2
            refine ⟨by simp [Region.wanted, yielded, hu6], fun Q K hK => ?_⟩
            have hu8 := gis (L := L) (w := w3) (hd 8 rfl).2
            rw [hu8] at hK ⊢
            obtain ⟨a7, hu7⟩ := (hd 7 rfl).2
            rw [hu7] at hK ⊢
            clear hd
            obtain ⟨i0, hi, hz0, hz1, hz2⟩ := info_parts infoFl
            have hfl := SlAt.flat (sz := 5) (enc := Fl.enc) (by omega) (fun _ => rfl) (HS2.out.below hC)
            obtain ⟨v5, w5, hrun, hown5, hgr5⟩ := run_append_arg_grows (P := Tryd.prog) (w := w3) 37 37 45 i0 _ 5 40 Tryd.underlying37 hi hz0 hz1 hz2 rfl (by decide) a7 0 0 [] rfl (fun j u h => by simp at h) ⟨b, o, none⟩ n cap0 (ys.flatMap Fl.enc) (by rw [length_flatMap (sz := 5) (fun _ => rfl), HN.out]) hfl (by omega) (by simp only [maxLen]; omega) (by omega)
            have hb5 : Below w3.heap.size w3 w5 := (Below.refl _ _).grown hgr5 (Nat.le_refl _) (fun k hk => by cases hk)
            have ho5 : OwnFl w3.heap.size w5 v5 ys := by
              unfold OwnFl OwnSl
              rw [HN.out]
              simpa using hown5
            have HO5 := Lib.hid ho5
            clear hown5 hgr5 hfl ho5
            refine wp_append_run _ _ _ rfl rfl rfl hrun ?_
            refine hK _ _ rfl (hC.trans (hb5.mono hC.size)) ?_ ?_
            · exact .inr (OwnSl.mono HO5.out hC.size)
            · exact (fun j x hj hL9 h9 => gof_stb _ hG L 9 j _ _ _ hb5 h9)
          · refine step2 (fun L u w3 hL hC hd => ?_)
            have hu6 := gis (L := L) (w := w3) (hd 6 rfl).2
            refine ⟨by simp [Region.wanted, yielded, hu6], fun Q K hK => ?_⟩
            clear hd
            go_step
            exact hK _ _ rfl hC rfl (fun j x hj hL9 h9 => gof_stb _ hG L 10 j _ _ _ (Below.refl _ _) h9)
          · refine step2 (fun L u w3 hL hC hd => ?_)
            have hu6 := gis (L := L) (w := w3) (hd 6 rfl).2
            refine ⟨by simp [Region.wanted, yielded, hu6], fun Q K hK => ?_⟩
            have hu10 := gis (L := L) (w := w3) (hd 10 rfl).2
            rw [hu10] at hK ⊢
            clear hd
            go_step
            exact hK _ _ rfl hC rfl (fun j x hj hL9 h9 => gof_stb _ hG L 11 j _ _ _ (Below.refl _ _) h9)
          · refine step2 (fun L u w3 hL hC hd => ?_)
            have hu6 := gis (L := L) (w := w3) (hd 6 rfl).2
            refine ⟨by simp [Region.wanted, yielded, hu6], fun Q K hK => ?_⟩
            have hu11 := gis (L := L) (w := w3) (hd 11 rfl).2
            rw [hu11] at hK ⊢
            clear hd
            go_step
            exact hK _ _ rfl hC rfl (fun j x hj hL9 h9 => gof_stb _ hG L 12 j _ _ _ (Below.refl _ _) h9)
          · refine step2 (fun L u w3 hL hC hd => ?_)
            have hu6 := gis (L := L) (w := w3) (hd 6 rfl).2
            refine ⟨by simp [Region.wanted, yielded, hu6], fun Q K hK => ?_⟩
            have hu12 := gis (L := L) (w := w3) (hd 12 rfl).2
            rw [hu12] at hK ⊢
            clear hd
            have e0 := (hC.cell (p := ⟨b, o, none⟩) hbl).trans k0
            have e1 := (hC.cell (p := ⟨b, o + 1, none⟩) hbl).trans k1
            have e2 := (hC.cell (p := ⟨b, o + 2, none⟩) hbl).trans k2
            have e3 := (hC.cell (p := ⟨b, o + 3, none⟩) hbl).trans k3
            go_step
            exact hK _ _ rfl hC rfl (fun j x hj hL9 h9 => gof_stb _ hG L 13 j _ _ _ (Below.refl _ _) h9)
          · refine step2 (fun L u w3 hL hC hd => ?_)
            have hu6 := gis (L := L) (w := w3) (hd 6 rfl).2
            refine ⟨by simp [Region.wanted, yielded, hu6], fun Q K hK => ?_⟩
            have hu13 := gis (L := L) (w := w3) (hd 13 rfl).2
            rw [hu13] at hK ⊢
            clear hd
            go_step
            refine (implRev_b HRV.out _ (ht2.out.below hC)).mono ?_
            rintro e w4 ⟨rfl, hb⟩
            exact hK _ _ rfl (hC.trans (hb.mono hC.size)) rfl (fun j x hj hL9 h9 => gof_stb _ hG L 14 j _ _ _ hb h9)
          · refine step2 (fun L u w3 hL hC hd => ?_)
            have hu6 := gis (L := L) (w := w3) (hd 6 rfl).2
            refine ⟨by simp [Region.wanted, yielded, hu6], fun Q K hK => ?_⟩
            have hu14 := gis (L := L) (w := w3) (hd 14 rfl).2
            rw [hu14] at hK ⊢
            clear hd
            go_step
            exact hK _ _ rfl hC rfl (fun j x hj hL9 h9 => gof_stb _ hG L 15 j _ _ _ (Below.refl _ _) h9)
          · refine step2 (fun L u w3 hL hC hd => ?_)
            have hu6 := gis (L := L) (w := w3) (hd 6 rfl).2
            refine ⟨by simp [Region.wanted, yielded, hu6], fun Q K hK => ?_⟩
            have hu15 := gis (L := L) (w := w3) (hd 15 rfl).2
            rw [hu15] at hK ⊢
            clear hd
            go_step
            exact hK _ _ rfl (hC.alloc hC.size _) (.inr ⟨w3.heap.size, rfl, by simp, fun j c hj => by have := cellsNew w3 (Fl.enc ⟨⟨r1, r2, r3, r4⟩, 0⟩) 45 j c hj; rwa [Addr.add_lit] at this⟩) (fun j x hj hL9 h9 => gof_stb _ hG L 16 j _ _ _ ((Below.refl _ _).alloc (Nat.le_refl _) _) h9)
          · refine step2 (fun L u w3 hL hC hd => ?_)
            have hu6 := gis (L := L) (w := w3) (hd 6 rfl).2
            refine ⟨by simp [Region.wanted, yielded, hu6], fun Q K hK => ?_⟩
            have h9 : OwnFl w2.heap.size w3 (u 9) ys := by
              rcases (hd 9 rfl).2 with h | h
              · rw [hL] at h; cases h
              · exact h
            obtain ⟨g, hu16, hg, hcg⟩ : LitFl ⟨⟨r1, r2, r3, r4⟩, 0⟩ w3 (u 16) := by
              rcases (hd 16 rfl).2 with h | h
              · rw [hL] at h; cases h
              · exact h
            rw [hu16] at hK ⊢
            clear hd
            generalize u 9 = v9 at *
            obtain ⟨i0, hi, hz0, hz1, hz2⟩ := info_parts infoFl
            refine wp_append_lies w3 _ _ 37 rfl w2.heap.size 45 i0 _ 5 40 Tryd.underlying37 hi hz0 hz1 hz2 rfl (by decide) v9 ys.length (ys.flatMap Fl.enc) rfl h9 ⟨g, 0, none⟩ 1 1 (Fl.enc ⟨⟨r1, r2, r3, r4⟩, 0⟩) rfl rfl (fun j c hj => by rw [Addr.add_lit]; exact hcg j c hj) (by simp [Value.oneCell']) (by omega) (by rw [HN.out]; simp only [maxLen]; omega) (by rw [HN.out]; omega) hC.size w3.heap.size rfl ?_
            intro g5 cap5 w5 hown5 hgr5 hg5 hlt5
            have hC5 : Below w2.heap.size w2 w5 := belGrown hC h9 hgr5 hC.size
            exact hK _ _ rfl hC5 (OwnSl.pushed rfl hown5) (fun j x hj hL9 h9 => gof_17 _ 0 hS L j _ _ _ (by omega) hL h9)
          · refine step2 (fun L u w3 hL hC hd => ?_)
            have hu6 := gis (L := L) (w := w3) (hd 6 rfl).2
            refine ⟨by simp [Region.wanted, yielded, hu6], fun Q K hK => ?_⟩
            have h17 : OwnFl w2.heap.size w3 (u 17) (ys ++ [⟨⟨r1, r2, r3, r4⟩, 0⟩]) := (hd 17 rfl).2
            clear hd
            generalize u 17 = v17 at *
            go_step
            refine (implFV_b (OwnFl.fls h17) (ht2.out.below hC) HM.out).mono ?_
            rintro e w4 ⟨rfl, hb⟩
            exact hK _ _ rfl (hC.trans (hb.mono hC.size)) rfl (fun j x hj hL9 h9 => gof_stb _ hG L 18 j _ _ _ hb h9)
          · refine step2 (fun L u w3 hL hC hd => ?_)
            have hu6 := gis (L := L) (w := w3) (hd 6 rfl).2
            refine ⟨by simp [Region.wanted, yielded, hu6], fun Q K hK => ?_⟩
            have hu18 := gis (L := L) (w := w3) (hd 18 rfl).2
            rw [hu18] at hK ⊢
            clear hd
            go_step
            exact hK _ _ rfl hC rfl (fun j x hj hL9 h9 => gof_stb _ hG L 19 j _ _ _ (Below.refl _ _) h9)
          · refine step2 (fun L u w3 hL hC hd => ?_)
            refine ⟨rfl, fun Q K hK => ?_⟩
            have hu6 := gis (L := L) (w := w3) (hd 6 rfl).2
            rw [hu6] at hK ⊢
            have hu19 := gis (L := L) (w := w3) (hd 19 rfl).2
            rw [hu19] at hK ⊢
            clear hd
            go_step
            exact hK _ _ rfl hC rfl (fun j x hj hL9 h9 => gof_stb _ hG L 20 j _ _ _ (Below.refl _ _) h9)
          · refine step2 (fun L u w3 hL hC hd => ?_)
            refine ⟨rfl, fun Q K hK => ?_⟩
            have hu20 := gis (L := L) (w := w3) (hd 20 rfl).2
            rw [hu20] at hK ⊢
            clear hd
            go_step
            exact hK _ _ rfl hC rfl (fun j x hj hL9 h9 => gof_stb _ hG L 21 j _ _ _ (Below.refl _ _) h9)
        case hend =>
          intro L u w9 hL hC hF
          have g := gis (L := L) (w := w9) (hF 21 (by simp))
          rw [g]
          have hf : Below w.heap.size w w9 := hw2.trans (hC.mono hw2.size)
          clear hF hC
          go_wp2_with fail
          go_ret
          exact ⟨rfl, hf⟩
end Go.Proofs.YtlppchkilinpfaaDoor
