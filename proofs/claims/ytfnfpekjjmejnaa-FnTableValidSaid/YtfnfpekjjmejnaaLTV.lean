/- The law FnTableValid: the walk. -/
import Derived.Test.YtfnfpekjjmejnaaRdTV
namespace Go.Proofs.Ytfnfpekjjmejnaa
open Go.RowKit
theorem wpList_append_runW {P : Program} {ops : Array Oper} {rest : List Oper} {o : Oper} {a : Act} {w : World} {Q : Exit → Act → World → Prop} (hw : Region.wanted o (yielded ops a.tmps) = true) (s x : Operand) (t : TypeId)
    (ho : o.op = .call { callee := .builtin .append, args := #[s, x], argTypes := #[t, t] }) {vs vx : Value} (hs : a.eval s = vs) (hx : a.eval x = vx) {v' : Value} {w' : World}
    (hr : (Builtin.append_ #[t, t] o.type #[vs, vx]).run P w = .ok v' w') (hk : wpList P ops Q rest (a.put o.dst v') w') : wpList P ops Q (o :: rest) a w :=
  wpList_step fun K hK => by simp only [hw, if_true]; exact wp_append_run s x t ho hs hx hr (hK _ _ hk)
theorem OwnEn.one {base : Nat} {w : World} (h : base ≤ w.heap.size) (z : En) : OwnEn base (w.alloc (.cells #[.int .i64 z.w.b, .int .i64 z.w.l, .int .i64 z.v] 35)) (.slice (some ⟨w.heap.size, 0, none⟩) 1 1) [z] :=
  ⟨by simp, .inr ⟨w.heap.size, 1, _, rfl, h, heap_alloc_new w _, by simp, by simp [maxLen], rfl, by simp⟩⟩
set_option maxRecDepth 100000 in
set_option maxHeartbeats 4000000 in
theorem law_FnTableValid (bs : List Int) (v : Value) (w : World) (h : CodeAt w v bs) :
    Calls Try.prog 4 #[v] w fun e w' => e = .returned (.bool true) ∧ Below w.heap.size w w' := by
  have h' := h
  obtain ⟨a, cap, rfl, l1, l2, hx⟩ := code_cells h'
  clear hx h'
  unfold maxLen at l2
  by_cases hl : 1048576 < bs.length
  · go_enter Try.func4, Try.ntmps4
    go_wp2
    go_ret
    exact ⟨rfl, by (repeat' (first | with_reducible exact Below.refl _ _ | with_reducible assumption | with_reducible refine Below.setCell ?_ ?_ _ | with_reducible refine Below.alloc ?_ ?_ _ | with_reducible refine Below.drew ?_ | with_reducible refine belDrewN ?_ _ | with_reducible refine Below.trans ?_ (Below.mono (by assumption) ?_) | omega | (simp; omega) | (simp; done)))⟩
  · go_enter Try.func4, Try.ntmps4
    go_wp2_with fail
    refine (drawTV_any _ _ _ h).mono ?_
    rintro e w0 ⟨v0, ys, rfl, ho, hlen, hb0⟩
    have hz0 := hb0.size
    have hs := OwnEn.ens ho
    clear ho
    obtain ⟨sa, cap0, rfl, hlc, hcm, -⟩ := id hs
    unfold maxLen at hcm
    generalize hn : ys.length = n at *
    have HN := Lib.hid hn
    clear hn
    cases hv : tvalid ys
    · 
      go_wp2_with fail; refine (implTV_b hs hv).mono ?_; rintro e w1 ⟨rfl, hb1⟩; obtain ⟨hc1, hf1⟩ := bcell hb1; have hz1 := hb1.size; (try simp at hz1); (try have hz1_w_0 : w.heap.size < w1.heap.size := (by omega)); (try have hz1_w_1 : w.heap.size + 1 < w1.heap.size := (by omega)); (try have hz1_w_2 : w.heap.size + 2 < w1.heap.size := (by omega)); (try have hz1_w0_0 : w0.heap.size < w1.heap.size := (by omega)); (try have hz1_w0_1 : w0.heap.size + 1 < w1.heap.size := (by omega)); (try have hz1_w0_2 : w0.heap.size + 2 < w1.heap.size := (by omega))
      go_wp2_with fail; refine (specTV_b (hs.below (by (repeat' (first | with_reducible exact Below.refl _ _ | with_reducible assumption | with_reducible refine Below.setCell ?_ ?_ _ | with_reducible refine Below.alloc ?_ ?_ _ | with_reducible refine Below.drew ?_ | with_reducible refine belDrewN ?_ _ | with_reducible refine Below.trans ?_ (Below.mono (by assumption) ?_) | omega | (simp; omega) | (simp; done))))) hv).mono ?_; rintro e w2 ⟨rfl, hb2⟩; obtain ⟨hc2, hf2⟩ := bcell hb2; have hz2 := hb2.size; (try simp at hz2); (try have hz2_w_0 : w.heap.size < w2.heap.size := (by omega)); (try have hz2_w_1 : w.heap.size + 1 < w2.heap.size := (by omega)); (try have hz2_w_2 : w.heap.size + 2 < w2.heap.size := (by omega)); (try have hz2_w0_0 : w0.heap.size < w2.heap.size := (by omega)); (try have hz2_w0_1 : w0.heap.size + 1 < w2.heap.size := (by omega)); (try have hz2_w0_2 : w0.heap.size + 2 < w2.heap.size := (by omega)); (try have hz2_w1_0 : w1.heap.size < w2.heap.size := (by omega)); (try have hz2_w1_1 : w1.heap.size + 1 < w2.heap.size := (by omega)); (try have hz2_w1_2 : w1.heap.size + 2 < w2.heap.size := (by omega))
      go_wp2_with fail; refine (alive_any _).mono ?_; rintro e w3 ⟨rfl, hb3⟩; obtain ⟨hc3, hf3⟩ := bcell hb3; have hz3 := hb3.size; (try simp at hz3); (try have hz3_w_0 : w.heap.size < w3.heap.size := (by omega)); (try have hz3_w_1 : w.heap.size + 1 < w3.heap.size := (by omega)); (try have hz3_w_2 : w.heap.size + 2 < w3.heap.size := (by omega)); (try have hz3_w0_0 : w0.heap.size < w3.heap.size := (by omega)); (try have hz3_w0_1 : w0.heap.size + 1 < w3.heap.size := (by omega)); (try have hz3_w0_2 : w0.heap.size + 2 < w3.heap.size := (by omega)); (try have hz3_w1_0 : w1.heap.size < w3.heap.size := (by omega)); (try have hz3_w1_1 : w1.heap.size + 1 < w3.heap.size := (by omega)); (try have hz3_w1_2 : w1.heap.size + 2 < w3.heap.size := (by omega)); (try have hz3_w2_0 : w2.heap.size < w3.heap.size := (by omega)); (try have hz3_w2_1 : w2.heap.size + 1 < w3.heap.size := (by omega)); (try have hz3_w2_2 : w2.heap.size + 2 < w3.heap.size := (by omega))
      go_wp2
      go_ret
      exact ⟨rfl, by (repeat' (first | with_reducible exact Below.refl _ _ | with_reducible assumption | with_reducible refine Below.setCell ?_ ?_ _ | with_reducible refine Below.alloc ?_ ?_ _ | with_reducible refine Below.drew ?_ | with_reducible refine belDrewN ?_ _ | with_reducible refine Below.trans ?_ (Below.mono (by assumption) ?_) | omega | (simp; omega) | (simp; done)))⟩
    · by_cases h0 : n = 0
      · subst h0
        
        go_wp2_with fail; refine (implTV_b hs hv).mono ?_; rintro e w1 ⟨rfl, hb1⟩; obtain ⟨hc1, hf1⟩ := bcell hb1; have hz1 := hb1.size; (try simp at hz1); (try have hz1_w_0 : w.heap.size < w1.heap.size := (by omega)); (try have hz1_w_1 : w.heap.size + 1 < w1.heap.size := (by omega)); (try have hz1_w_2 : w.heap.size + 2 < w1.heap.size := (by omega)); (try have hz1_w0_0 : w0.heap.size < w1.heap.size := (by omega)); (try have hz1_w0_1 : w0.heap.size + 1 < w1.heap.size := (by omega)); (try have hz1_w0_2 : w0.heap.size + 2 < w1.heap.size := (by omega))
        go_wp2_with fail; refine (specTV_b (hs.below (by (repeat' (first | with_reducible exact Below.refl _ _ | with_reducible assumption | with_reducible refine Below.setCell ?_ ?_ _ | with_reducible refine Below.alloc ?_ ?_ _ | with_reducible refine Below.drew ?_ | with_reducible refine belDrewN ?_ _ | with_reducible refine Below.trans ?_ (Below.mono (by assumption) ?_) | omega | (simp; omega) | (simp; done))))) hv).mono ?_; rintro e w2 ⟨rfl, hb2⟩; obtain ⟨hc2, hf2⟩ := bcell hb2; have hz2 := hb2.size; (try simp at hz2); (try have hz2_w_0 : w.heap.size < w2.heap.size := (by omega)); (try have hz2_w_1 : w.heap.size + 1 < w2.heap.size := (by omega)); (try have hz2_w_2 : w.heap.size + 2 < w2.heap.size := (by omega)); (try have hz2_w0_0 : w0.heap.size < w2.heap.size := (by omega)); (try have hz2_w0_1 : w0.heap.size + 1 < w2.heap.size := (by omega)); (try have hz2_w0_2 : w0.heap.size + 2 < w2.heap.size := (by omega)); (try have hz2_w1_0 : w1.heap.size < w2.heap.size := (by omega)); (try have hz2_w1_1 : w1.heap.size + 1 < w2.heap.size := (by omega)); (try have hz2_w1_2 : w1.heap.size + 2 < w2.heap.size := (by omega))
        go_wp2_with fail; refine (alive_any _).mono ?_; rintro e w3 ⟨rfl, hb3⟩; obtain ⟨hc3, hf3⟩ := bcell hb3; have hz3 := hb3.size; (try simp at hz3); (try have hz3_w_0 : w.heap.size < w3.heap.size := (by omega)); (try have hz3_w_1 : w.heap.size + 1 < w3.heap.size := (by omega)); (try have hz3_w_2 : w.heap.size + 2 < w3.heap.size := (by omega)); (try have hz3_w0_0 : w0.heap.size < w3.heap.size := (by omega)); (try have hz3_w0_1 : w0.heap.size + 1 < w3.heap.size := (by omega)); (try have hz3_w0_2 : w0.heap.size + 2 < w3.heap.size := (by omega)); (try have hz3_w1_0 : w1.heap.size < w3.heap.size := (by omega)); (try have hz3_w1_1 : w1.heap.size + 1 < w3.heap.size := (by omega)); (try have hz3_w1_2 : w1.heap.size + 2 < w3.heap.size := (by omega)); (try have hz3_w2_0 : w2.heap.size < w3.heap.size := (by omega)); (try have hz3_w2_1 : w2.heap.size + 1 < w3.heap.size := (by omega)); (try have hz3_w2_2 : w2.heap.size + 2 < w3.heap.size := (by omega))
        go_wp2
        go_ret
        exact ⟨rfl, by (repeat' (first | with_reducible exact Below.refl _ _ | with_reducible assumption | with_reducible refine Below.setCell ?_ ?_ _ | with_reducible refine Below.alloc ?_ ?_ _ | with_reducible refine Below.drew ?_ | with_reducible refine belDrewN ?_ _ | with_reducible refine Below.trans ?_ (Below.mono (by assumption) ?_) | omega | (simp; omega) | (simp; done)))⟩
      · 
        go_wp2_with fail; refine (implTV_b hs hv).mono ?_; rintro e w1 ⟨rfl, hb1⟩; obtain ⟨hc1, hf1⟩ := bcell hb1; have hz1 := hb1.size; (try simp at hz1); (try have hz1_w_0 : w.heap.size < w1.heap.size := (by omega)); (try have hz1_w_1 : w.heap.size + 1 < w1.heap.size := (by omega)); (try have hz1_w_2 : w.heap.size + 2 < w1.heap.size := (by omega)); (try have hz1_w0_0 : w0.heap.size < w1.heap.size := (by omega)); (try have hz1_w0_1 : w0.heap.size + 1 < w1.heap.size := (by omega)); (try have hz1_w0_2 : w0.heap.size + 2 < w1.heap.size := (by omega))
        go_wp2_with fail; refine (specTV_b (hs.below (by (repeat' (first | with_reducible exact Below.refl _ _ | with_reducible assumption | with_reducible refine Below.setCell ?_ ?_ _ | with_reducible refine Below.alloc ?_ ?_ _ | with_reducible refine Below.drew ?_ | with_reducible refine belDrewN ?_ _ | with_reducible refine Below.trans ?_ (Below.mono (by assumption) ?_) | omega | (simp; omega) | (simp; done))))) hv).mono ?_; rintro e w2 ⟨rfl, hb2⟩; obtain ⟨hc2, hf2⟩ := bcell hb2; have hz2 := hb2.size; (try simp at hz2); (try have hz2_w_0 : w.heap.size < w2.heap.size := (by omega)); (try have hz2_w_1 : w.heap.size + 1 < w2.heap.size := (by omega)); (try have hz2_w_2 : w.heap.size + 2 < w2.heap.size := (by omega)); (try have hz2_w0_0 : w0.heap.size < w2.heap.size := (by omega)); (try have hz2_w0_1 : w0.heap.size + 1 < w2.heap.size := (by omega)); (try have hz2_w0_2 : w0.heap.size + 2 < w2.heap.size := (by omega)); (try have hz2_w1_0 : w1.heap.size < w2.heap.size := (by omega)); (try have hz2_w1_1 : w1.heap.size + 1 < w2.heap.size := (by omega)); (try have hz2_w1_2 : w1.heap.size + 2 < w2.heap.size := (by omega))
        have hq2 : Below w0.heap.size w0 w2 := hb1.trans (hb2.mono hz1)
        have hw2 : Below w.heap.size w w2 := hb0.trans (hq2.mono hz0)
        have hs2 := hs.below hq2
        obtain ⟨b, o, f1, f2, f3, rfl, hbl, hx, c0, c1, c2⟩ := hs2.at (show 0 < ys.length by rw [HN.out]; omega)
        simp only [Nat.zero_mul, Nat.add_zero] at c0 c1 c2
        have HM := Lib.hid (tvalid_twice hx)
        obtain ⟨hh, hhe⟩ : ∃ hh : Nat, hh = n / 2 := ⟨_, rfl⟩
        have HH := Lib.hid (show tvalid (ys.take hh) = true from tvalid_take hv hh)
        have HSH := Lib.hid (Ens.takeP hs2 (show hh ≤ n by omega))
        have hdiv : (n : Int) / 2 = (hh : Int) := by omega
        have hh1 : (hh : Int) ≤ (n : Int) := by omega
        have hh2 : (hh : Int) ≤ (cap0 : Int) := by omega
        have hn0 : (0 : Int) < (n : Int) := by omega
        have HS2 := Lib.hid hs2
        clear hx hv hs2 hhe hq2 hs hb1 hb2 hc1 hf1 hc2 hf2 h0
        go_upto_region 9 with (fail)
        go_wp2_with fail
        refine (implTV_b HSH.out HH.out).mono ?_
        rintro e w3 ⟨rfl, hb3⟩
        have hz3 := hb3.size
        have d0 := (hb3.cell (p := ⟨b, o, none⟩) hbl).trans c0; have d1 := (hb3.cell (p := ⟨b, o + 1, none⟩) hbl).trans c1; have d2 := (hb3.cell (p := ⟨b, o + 2, none⟩) hbl).trans c2
        have hw3 : Below w.heap.size w w3 := hw2.trans (hb3.mono hw2.size)
        have HS3 := Lib.hid (HS2.out.below hb3)
        clear c0 c1 c2 hb3 HS2 HSH HH
        obtain ⟨i0, hi, hy0, hy1, hy2⟩ := info_parts infoEn
        have hal : Below w3.heap.size w3 (w3.alloc (.cells #[.int .i64 f1, .int .i64 f2, .int .i64 f3] 35)) := (Below.refl _ _).alloc (Nat.le_refl _) _
        obtain ⟨v4, w4, hrun4, hown4, hb4⟩ := own_append_any (sz := 3) (enc := En.enc) (by omega) (fun _ => rfl) (P := Try.prog) (W := w3) (w := w3.alloc (.cells #[.int .i64 f1, .int .i64 f2, .int .i64 f3] 35)) 25 25 35 i0 _ 24 Try.underlying25 hi hy0 hy1 hy2 rfl (en_one ys) (OwnEn.one (Nat.le_refl _) ⟨⟨f1, f2⟩, f3⟩) (by simp) (HS3.out.below hal) (by rw [HN.out]; simp; omega) (by rw [HN.out]; simp [maxLen]; omega) hal
        have hw4 : Below w.heap.size w w4 := hw3.trans (hb4.mono hw3.size)
        have HO4 := Lib.hid hown4
        clear hown4 hb4
        go_wp2_with (at_builtin; refine wpList_append_runW (by simp [Region.wanted, yielded]) _ _ 25 rfl rfl rfl hrun4 ?_)
        refine (implTV_b (OwnEn.ens HO4.out) HM.out).mono ?_
        rintro e w5 ⟨rfl, hb5⟩
        have hw5 : Below w.heap.size w w5 := hw4.trans (hb5.mono hw4.size)
        go_wp2
        go_ret
        exact ⟨rfl, hw5⟩
end Go.Proofs.Ytfnfpekjjmejnaa
