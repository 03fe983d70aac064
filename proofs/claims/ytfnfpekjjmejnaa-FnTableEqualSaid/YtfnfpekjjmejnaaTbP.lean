/- TablePut: the reference's. -/
import Derived.Test.YtfnfpekjjmejnaaTbSi
import Derived.Test.YtfnfpekjjmejnaaAppC
import Derived.Test.YtfnfpekjjmejnaaSlC
import Derived.Test.YtfnfpekjjmejnaaReg3
import Derived.Deep.DeepCutAuto
namespace Go.Proofs.Ytfnfpekjjmejnaa
open Go.RowKit
/-- How many entries come before a prefix. -/
def place : List En → Pf → Nat
  | [], _ => 0
  | x :: xs, p => if x.w.lt p then place xs p + 1 else 0
theorem place_eq {p : Pf} : ∀ (xs : List En) (k : Nat), (∀ (i : Nat) x, i < k → xs[i]? = some x → x.w.lt p = true) → (xs.length ≤ k ∨ ∃ x, xs[k]? = some x ∧ x.w.lt p = false) → k ≤ xs.length → place xs p = k
  | [], k, _, _, hk => by simp at hk; simp [place, hk]
  | x :: xs, 0, _, h2, _ => by
    rcases h2 with h2 | ⟨y, hy, hl⟩
    · simp at h2
    · simp at hy
      subst hy
      simp [place, hl]
  | x :: xs, k + 1, h1, h2, hk => by
    have hx := h1 0 x (by omega) rfl
    simp only [place, hx, if_true]
    rw [place_eq xs k (fun i y hi hy => h1 (i + 1) y (by omega) (by simpa using hy)) (by
      rcases h2 with h2 | ⟨y, hy, hl⟩
      · exact .inl (by simpa using h2)
      · exact .inr ⟨y, by simpa using hy, hl⟩) (by simpa using hk)]
theorem place_le (p : Pf) : ∀ xs : List En, place xs p ≤ xs.length
  | [] => by simp [place]
  | x :: xs => by
    have := place_le p xs
    simp only [place, List.length_cons]
    split <;> omega
def tput (xs : List En) (e : En) : List En × Bool :=
  if tvalid xs && e.ok then
    if (xs[place xs e.w]?).map (·.w) = some e.w then (xs.set (place xs e.w) e, true)
    else if xs.length = 30 then (xs, false)
    else (xs.take (place xs e.w) ++ [e] ++ xs.drop (place xs e.w), true)
  else ([], false)
theorem tvalid_one (e : En) : tvalid [e] = e.ok := by
  simp [tvalid, List.range_succ]
def LitEn (z : En) (w : World) (v : Value) : Prop := ∃ g, v = .slice (some ⟨g, 0, none⟩) 1 1 ∧ g < w.heap.size ∧ CellsAt w g 0 (En.enc z)
theorem litEn_st (z : En) : BStb (LitEn z) := fun _ _ _ hb ⟨g, h1, h2, h3⟩ => ⟨g, h1, Nat.lt_of_lt_of_le h2 hb.size, h3.below h2 hb⟩
theorem LitEn.ens {z : En} {w : World} {v : Value} (h : LitEn z w v) : Ens w v [z] := by
  obtain ⟨g, rfl, hg, hc⟩ := h
  refine ⟨_, 1, rfl, by simp, by simp [maxLen], fun k x hk => ?_⟩
  match k, hk with
  | 0, hk => cases hk; exact ⟨g, 0, rfl, hg, by simpa using hc⟩
  | k + 1, hk => simp at hk
theorem litNew (w : World) (z : En) : LitEn z (w.alloc (.cells #[.int .i64 z.w.b, .int .i64 z.w.l, .int .i64 z.v] 35)) (.slice (some ⟨w.heap.size, 0, none⟩) 1 1) :=
  ⟨w.heap.size, rfl, by simp, fun j c hj => by have := cellsNew w (En.enc z) 35 j c hj; rwa [Addr.add_lit] at this⟩
theorem en_one (xs : List En) : ∀ u ∈ xs.flatMap En.enc, u.oneCell' = true := by
  intro u hu
  obtain ⟨x, _, hu⟩ := List.mem_flatMap.1 hu
  simp only [En.enc, List.mem_cons, List.not_mem_nil, or_false] at hu
  rcases hu with rfl | rfl | rfl <;> simp [Value.oneCell']
theorem OwnEn.lit {base : Nat} {w : World} (h : base ≤ w.heap.size) : OwnEn base (w.alloc (.cells #[] 35)) (.slice (some ⟨w.heap.size, 0, none⟩) 0 0) [] := by
  simpa using! World.ownsRow_made (e := 35) (size := 3) w #[] 0 h (by simp) (by simp)
set_option maxRecDepth 100000 in
set_option maxHeartbeats 4000000 in
theorem specTP_any (xs : List En) (v : Value) (p1 p2 p3 : Int) (w : World) (hs : Ens w v xs) :
    Calls Try.prog 37 #[v, .agg #[.int .i64 p1, .int .i64 p2, .int .i64 p3]] w (RetEnB (tput xs ⟨⟨p1, p2⟩, p3⟩).1 (tput xs ⟨⟨p1, p2⟩, p3⟩).2 w) := by
  obtain ⟨a, cap, rfl, hlc, hcm, -⟩ := id hs
  unfold maxLen at hcm
  generalize hn : xs.length = n at *
  have HN := Lib.hid hn
  clear hn
  cases hv : tvalid xs
  · have HT := Lib.hid (show tput xs ⟨⟨p1, p2⟩, p3⟩ = ([], false) by simp [tput, hv])
    rw [HT.out]
    go_enter Try.func37, Try.ntmps37
    
    go_wp2_with fail; refine (specTV_b (hs.below (by (repeat' (first | with_reducible exact Below.refl _ _ | with_reducible assumption | with_reducible refine Below.setCell ?_ ?_ _ | with_reducible refine Below.alloc ?_ ?_ _ | with_reducible refine Below.drew ?_ | with_reducible refine belDrewN ?_ _ | with_reducible refine Below.trans ?_ (Below.mono (by assumption) ?_) | omega | (simp; omega) | (simp; done))))) hv).mono ?_; rintro e w1 ⟨rfl, hb1⟩; obtain ⟨hc1, hf1⟩ := bcell hb1; have hz1 := hb1.size; (try simp at hz1); (try have hz1_w_0 : w.heap.size < w1.heap.size := (by omega)); (try have hz1_w_1 : w.heap.size + 1 < w1.heap.size := (by omega)); (try have hz1_w_2 : w.heap.size + 2 < w1.heap.size := (by omega))
    go_wp2
    go_ret2
    exact ⟨_, rfl, OwnEn.lit (by omega), by (repeat' (first | with_reducible exact Below.refl _ _ | with_reducible assumption | with_reducible refine Below.setCell ?_ ?_ _ | with_reducible refine Below.alloc ?_ ?_ _ | with_reducible refine Below.drew ?_ | with_reducible refine belDrewN ?_ _ | with_reducible refine Below.trans ?_ (Below.mono (by assumption) ?_) | omega | (simp; omega) | (simp; done)))⟩
  · have h30 := ((tvalid_iff xs).1 hv).1
    rw [HN.out] at h30
    have HVL := Lib.hid hv
    cases he : En.ok ⟨⟨p1, p2⟩, p3⟩
    · have HT := Lib.hid (show tput xs ⟨⟨p1, p2⟩, p3⟩ = ([], false) by simp [tput, he])
      rw [HT.out]
      go_enter Try.func37, Try.ntmps37
      
      go_wp2_with fail; refine (specTV_b (hs.below (by (repeat' (first | with_reducible exact Below.refl _ _ | with_reducible assumption | with_reducible refine Below.setCell ?_ ?_ _ | with_reducible refine Below.alloc ?_ ?_ _ | with_reducible refine Below.drew ?_ | with_reducible refine belDrewN ?_ _ | with_reducible refine Below.trans ?_ (Below.mono (by assumption) ?_) | omega | (simp; omega) | (simp; done))))) hv).mono ?_; rintro e w1 ⟨rfl, hb1⟩; obtain ⟨hc1, hf1⟩ := bcell hb1; have hz1 := hb1.size; (try simp at hz1); (try have hz1_w_0 : w.heap.size < w1.heap.size := (by omega)); (try have hz1_w_1 : w.heap.size + 1 < w1.heap.size := (by omega)); (try have hz1_w_2 : w.heap.size + 2 < w1.heap.size := (by omega)); have k1 := ownCells hb1 w.heap.size (by simp)
      go_wp2_with fail; refine (specTV_b (LitEn.ens (litNew _ ⟨⟨p1, p2⟩, p3⟩)) ((tvalid_one _).trans he)).mono ?_; rintro e w2 ⟨rfl, hb2⟩; obtain ⟨hc2, hf2⟩ := bcell hb2; have hz2 := hb2.size; (try simp at hz2); (try have hz2_w_0 : w.heap.size < w2.heap.size := (by omega)); (try have hz2_w_1 : w.heap.size + 1 < w2.heap.size := (by omega)); (try have hz2_w_2 : w.heap.size + 2 < w2.heap.size := (by omega)); (try have hz2_w1_0 : w1.heap.size < w2.heap.size := (by omega)); (try have hz2_w1_1 : w1.heap.size + 1 < w2.heap.size := (by omega)); (try have hz2_w1_2 : w1.heap.size + 2 < w2.heap.size := (by omega))
      go_wp2
      go_ret2
      exact ⟨_, rfl, OwnEn.lit (by omega), by (repeat' (first | with_reducible exact Below.refl _ _ | with_reducible assumption | with_reducible refine Below.setCell ?_ ?_ _ | with_reducible refine Below.alloc ?_ ?_ _ | with_reducible refine Below.drew ?_ | with_reducible refine belDrewN ?_ _ | with_reducible refine Below.trans ?_ (Below.mono (by assumption) ?_) | omega | (simp; omega) | (simp; done)))⟩
    · have HT := Lib.hid (show tput xs ⟨⟨p1, p2⟩, p3⟩ = if (xs[place xs ⟨p1, p2⟩]?).map (·.w) = some ⟨p1, p2⟩ then (xs.set (place xs ⟨p1, p2⟩) ⟨⟨p1, p2⟩, p3⟩, true) else if xs.length = 30 then (xs, false) else (xs.take (place xs ⟨p1, p2⟩) ++ [⟨⟨p1, p2⟩, p3⟩] ++ xs.drop (place xs ⟨p1, p2⟩), true) by simp only [tput, hv, he, Bool.and_self, if_true])
      generalize tput xs ⟨⟨p1, p2⟩, p3⟩ = res at *
      obtain ⟨i0, hi, hy0, hy1, hy2⟩ := info_parts infoEn
      go_enter Try.func37, Try.ntmps37
      
      go_wp2_with fail; refine (specTV_b (hs.below (by (repeat' (first | with_reducible exact Below.refl _ _ | with_reducible assumption | with_reducible refine Below.setCell ?_ ?_ _ | with_reducible refine Below.alloc ?_ ?_ _ | with_reducible refine Below.drew ?_ | with_reducible refine belDrewN ?_ _ | with_reducible refine Below.trans ?_ (Below.mono (by assumption) ?_) | omega | (simp; omega) | (simp; done))))) hv).mono ?_; rintro e w1 ⟨rfl, hb1⟩; obtain ⟨hc1, hf1⟩ := bcell hb1; have hz1 := hb1.size; (try simp at hz1); (try have hz1_w_0 : w.heap.size < w1.heap.size := (by omega)); (try have hz1_w_1 : w.heap.size + 1 < w1.heap.size := (by omega)); (try have hz1_w_2 : w.heap.size + 2 < w1.heap.size := (by omega)); have k1 := ownCells hb1 w.heap.size (by simp)
      go_wp2_with fail; refine (specTV_b (LitEn.ens (litNew _ ⟨⟨p1, p2⟩, p3⟩)) ((tvalid_one _).trans he)).mono ?_; rintro e w2 ⟨rfl, hb2⟩; obtain ⟨hc2, hf2⟩ := bcell hb2; have hz2 := hb2.size; (try simp at hz2); (try have hz2_w_0 : w.heap.size < w2.heap.size := (by omega)); (try have hz2_w_1 : w.heap.size + 1 < w2.heap.size := (by omega)); (try have hz2_w_2 : w.heap.size + 2 < w2.heap.size := (by omega)); (try have hz2_w1_0 : w1.heap.size < w2.heap.size := (by omega)); (try have hz2_w1_1 : w1.heap.size + 1 < w2.heap.size := (by omega)); (try have hz2_w1_2 : w1.heap.size + 2 < w2.heap.size := (by omega)); have k2 := ownCells hb2 w.heap.size (by simp <;> omega)
      have b0 : w2.cell? ⟨w.heap.size, 0, none⟩ = some (.int .i64 p1) := by rw [k2, World.cell?_alloc_lt _ _ _ (by simpa using (by omega : w.heap.size < w1.heap.size)), k1]; simp
      have b1 : w2.cell? ⟨w.heap.size, 1, none⟩ = some (.int .i64 p2) := by rw [k2, World.cell?_alloc_lt _ _ _ (by simpa using (by omega : w.heap.size < w1.heap.size)), k1]; simp
      have b2 : w2.cell? ⟨w.heap.size, 2, none⟩ = some (.int .i64 p3) := by rw [k2, World.cell?_alloc_lt _ _ _ (by simpa using (by omega : w.heap.size < w1.heap.size)), k1]; simp
      have hw2 : Below w.heap.size w w2 := by (repeat' (first | with_reducible exact Below.refl _ _ | with_reducible assumption | with_reducible refine Below.setCell ?_ ?_ _ | with_reducible refine Below.alloc ?_ ?_ _ | with_reducible refine Below.drew ?_ | with_reducible refine belDrewN ?_ _ | with_reducible refine Below.trans ?_ (Below.mono (by assumption) ?_) | omega | (simp; omega) | (simp; done)))
      have hs2 := hs.below hw2
      clear k1 k2 hc1 hf1 hc2 hf2 hb1 hb2
      obtain ⟨v3, w3, hrun3, hown3, hb3⟩ := run_append_copy (sz := 3) (enc := En.enc) (by omega) (fun _ => rfl) (P := Try.prog) (w := w2.alloc (.cells #[] 35)) 25 25 35 i0 _ 24 Try.underlying25 hi hy0 hy1 hy2 rfl (base := w2.heap.size) ⟨w2.heap.size, 0, none⟩ (OwnEn.lit (Nat.le_refl _)) (by simp) (hs2.below ((Below.refl _ _).alloc (Nat.le_refl _) _)) (by rw [HN.out]; omega)
      have hal : Below w2.heap.size w2 (w2.alloc (.cells #[] 35)) := (Below.refl _ _).alloc (Nat.le_refl _) _
      have hq3 : Below w2.heap.size w2 w3 := hal.trans (hb3.mono (by simp))
      go_wp2_with (at_builtin; refine wpList_append_run rfl _ _ 25 rfl rfl rfl hrun3 ?_)
      have HO3 := Lib.hid hown3
      have hform := OwnSl.form hown3
      have hs3 := OwnEn.ens hown3
      have hw3 : Below w.heap.size w w3 := hw2.trans (hq3.mono hw2.size)
      have hE3 : w.heap.size < w2.heap.size := by omega
      have q0 := (hq3.cell (p := ⟨w.heap.size, 0, none⟩) hE3).trans b0; have q1 := (hq3.cell (p := ⟨w.heap.size, 1, none⟩) hE3).trans b1; have q2 := (hq3.cell (p := ⟨w.heap.size, 2, none⟩) hE3).trans b2
      obtain ⟨sb, cap3, rfl, hl3, hc3, -⟩ := id hs3
      unfold maxLen at hc3
      rw [HN.out] at hs3 hl3 HO3 hform
      have hz23 := hq3.size
      have hp := pfGuard
      have hEW3 : w.heap.size < w3.heap.size := Nat.lt_of_lt_of_le hE3 hz23
      clear hown3 hb3 hal hrun3 b0 b1 b2 hs2 he hv
      have hR : True := trivial
      rw [HN.out]
      go_wp2_with fail
      go_loopw [7] (fun i wr => ∃ k : Nat, k ≤ n ∧ i = .int .i64 k ∧ (∀ (i : Nat) x, i < k → xs[i]? = some x → x.w.lt ⟨p1, p2⟩ = true) ∧ Below w3.heap.size w3 wr) (fun i _ => n - (intOf i).toNat)
      case atStart => exact ⟨0, by omega, rfl, fun i x hi => by omega, Below.refl _ _⟩
      case round =>
        obtain ⟨k, kn, rfl, hlts, hbr⟩ := hrel
        have HL := Lib.hid hlts; clear hlts
        have hzr := hbr.size
        have hs4 := Lib.hid (hs3.below hbr)
        have e0 := (hbr.cell (p := ⟨w.heap.size, 0, none⟩) (by omega)).trans q0; have e1 := (hbr.cell (p := ⟨w.heap.size, 1, none⟩) (by omega)).trans q1; have e2 := (hbr.cell (p := ⟨w.heap.size, 2, none⟩) (by omega)).trans q2
        by_cases hlt : k < n
        · obtain ⟨b, o, f1, f2, f3, rfl, hbl, hx, c0, c1, c2⟩ := hs4.out.at (show k < xs.length by rw [HN.out]; exact hlt)
          have HX := Lib.hid hx; clear hx
          have i1 : (k : Int) < (n : Int) := by omega
          have i2 : (0 : Int) ≤ (k : Int) := by omega
          cases hl : Pf.lt ⟨f1, f2⟩ ⟨p1, p2⟩
          · have HPL := Lib.hid (place_eq xs k HL.out (.inr ⟨_, HX.out, hl⟩) (by rw [HN.out]; exact kn))
            have hq := pf_equal f1 f2 p1 p2
            by_cases he : Pf.mk f1 f2 = ⟨p1, p2⟩
            · have HR := Lib.hid (show res = (xs.set k ⟨⟨p1, p2⟩, p3⟩, true) by rw [HT.out, HPL.out, if_pos (by rw [HX.out]; simp [he])])
              rw [decide_eq_true he] at hq
              clear HT he
              go_wp2_with fail
              refine wp_region_over (by kernel_rfl) (by kernel_rfl) (fun ov => ?_); have ov0 := fun x => ov x (b) (by (try simp) <;> omega); have ov1 := fun x => ov x (w.heap.size) (by (try simp) <;> omega); clear ov; (repeat (go_big_quiet_step (first | (go_at_call 43; exact callsOver (before_b hl _))))); refine wpQuiet_nil ?_; intro w8 hw9; have hb_w8 := below_over hw9; clear hw9 ov0 ov1
              have hz8 := hb_w8.size
              have kb := ownCells hb_w8 b (by omega); have ke := ownCells hb_w8 w.heap.size (by omega)
              go_wp2_with fail
              refine wp_region_over (by kernel_rfl) (by kernel_rfl) (fun ov => ?_); have ov0 := fun x => ov x (b) (by (try simp) <;> omega); have ov1 := fun x => ov x (w.heap.size) (by (try simp) <;> omega); clear ov; (repeat (go_big_quiet_step (first | fail))); refine wpQuiet_nil ?_; intro w9 hw9; have hb_w9 := below_over hw9; clear hw9 ov0 ov1
              have hz9 := hb_w9.size
              have hq9 : Below w3.heap.size w3 w9 := hbr.trans ((hb_w8.trans (hb_w9.mono hz8)).mono hzr)
              have k0 := (hq9.cell (p := ⟨w.heap.size, 0, none⟩) (by omega)).trans q0; have k1 := (hq9.cell (p := ⟨w.heap.size, 1, none⟩) (by omega)).trans q1; have k2 := (hq9.cell (p := ⟨w.heap.size, 2, none⟩) (by omega)).trans q2
              obtain ⟨-, y0, y1, y2⟩ := (hs3.below hq9).get HX.out
              rcases hform with ⟨hf0, _⟩ | ⟨g, cp, hf0, hgb, hgl, _, _, _⟩
              · cases hf0
              · obtain ⟨rfl, _, _⟩ := Addr.mk.inj (Option.some.inj (Value.slice.inj hf0).1)
                obtain ⟨_, rfl, _⟩ := Addr.mk.inj (Option.some.inj (Value.slice.inj hf0).1)
                have ho9 := OwnSl.kept HO3.out hq9
                have hst := OwnSl.store (sz := 3) (enc := En.enc) (fun _ => rfl) (by rw [HN.out]) ho9 (show k < xs.length by rw [HN.out]; exact hlt) ⟨⟨p1, p2⟩, p3⟩
                have hfz := OwnSl.frz ho9
                have hB := belGrown (hw3.trans (hq9.mono hw3.size)) (OwnSl.mono (base' := w.heap.size) ho9 (by omega)) hst.2 (by omega)
                have HST := Lib.hid (OwnSl.mono (base' := w.heap.size) hst.1 (by omega))
                simp only [wSet, Nat.add_assoc, Nat.reduceAdd] at HST hB
                have HB := Lib.hid hB
                simp only [Nat.zero_add] at y0 y1 y2
                clear hst hB hb_w8 hb_w9 kb ke c0 c1 c2 e0 e1 e2 ho9
                go_wp2
                go_ret2
                rw [HR.out]
                exact ⟨_, rfl, HST.out, HB.out⟩
            · have HNE := Lib.hid (show ¬ (xs[place xs ⟨p1, p2⟩]?).map (·.w) = some ⟨p1, p2⟩ by rw [HPL.out, HX.out]; simpa using he)
              rw [decide_eq_false he] at hq
              clear he
              go_wp2_with fail
              refine wp_region_over (by kernel_rfl) (by kernel_rfl) (fun ov => ?_); have ov0 := fun x => ov x (b) (by (try simp) <;> omega); have ov1 := fun x => ov x (w.heap.size) (by (try simp) <;> omega); clear ov; (repeat (go_big_quiet_step (first | (go_at_call 43; exact callsOver (before_b hl _))))); refine wpQuiet_nil ?_; intro w8 hw9; have hb_w8 := below_over hw9; clear hw9 ov0 ov1
              have hz8 := hb_w8.size
              have kb := ownCells hb_w8 b (by omega); have ke := ownCells hb_w8 w.heap.size (by omega)
              go_wp2_with fail
              refine wp_region_over (by kernel_rfl) (by kernel_rfl) (fun ov => ?_); have ov0 := fun x => ov x (b) (by (try simp) <;> omega); have ov1 := fun x => ov x (w.heap.size) (by (try simp) <;> omega); clear ov; (repeat (go_big_quiet_step (first | fail))); refine wpQuiet_nil ?_; intro W hw9; have hb_W := below_over hw9; clear hw9 ov0 ov1
              have hW3 : Below w3.heap.size w3 W := hbr.trans ((hb_w8.trans (hb_W.mono hz8)).mono hzr)
              have hzW := hW3.size
              have hWb : Below w.heap.size w W := hw3.trans (hW3.mono hw3.size)
              have HSW := Lib.hid (hs.below hWb)
              have hEW : w.heap.size < W.heap.size := by omega
              have d0 := (hW3.cell (p := ⟨w.heap.size, 0, none⟩) (by omega)).trans q0; have d1 := (hW3.cell (p := ⟨w.heap.size, 1, none⟩) (by omega)).trans q1; have d2 := (hW3.cell (p := ⟨w.heap.size, 2, none⟩) (by omega)).trans q2
              clear hb_w8 hb_W kb ke c0 c1 c2 e0 e1 e2 hq hs4
              by_cases h30' : n = 30
              · have HR := Lib.hid (show res = (xs, false) by rw [HT.out, if_neg HNE.out, if_pos (by rw [HN.out]; exact h30')])
                have g30 : ((n : Int) == 30) = true := by simpa using (by omega : (n : Int) = 30)
                clear h30'
                go_wp2_with fail
                go_ret2
                rw [HR.out]
                exact ⟨_, rfl, OwnSl.mono (OwnSl.kept HO3.out hW3) (by omega), hWb⟩
              · have HR := Lib.hid (show res = (xs.take k ++ [⟨⟨p1, p2⟩, p3⟩] ++ xs.drop k, true) by rw [HT.out, if_neg HNE.out, if_neg (by rw [HN.out]; exact h30'), HPL.out])
                have g30 : ((n : Int) == 30) = false := by simpa using (by omega : (n : Int) ≠ 30)
                clear h30'
                go_upto_region 12 with (fail)
                refine wp_region_rel2 (fun _ x => Below W.heap.size W x) (fun L i x y => Hof [HTill 4 (fun x y => ∃ ad, y = .slice (some ad) 0 0 ∧ OwnEn W.heap.size x y []), HIs (.slice a n cap), HIs (.int .i64 k), HIs (.slice a k cap), HTill 7 (fun x y => OwnEn W.heap.size x y (xs.take k)), HIs (.agg #[.int .i64 p1, .int .i64 p2, .int .i64 p3]), HTill 7 (LitEn ⟨⟨p1, p2⟩, p3⟩), HAnd 4 (HTill 11 (fun x y => OwnEn W.heap.size x y (xs.take k ++ [⟨⟨p1, p2⟩, p3⟩]))), HIs (.slice a n cap), HIs (.int .i64 k), HIs (.slice (dropA a cap k 3) (n - k) (cap - k)), HAnd 7 (HW (fun x y => OwnEn W.heap.size x y (xs.take k ++ [⟨⟨p1, p2⟩, p3⟩] ++ xs.drop k))), HAnd 7 (HAnd 11 (HW (fun x y => OwnEn W.heap.size x y (xs.take k ++ [⟨⟨p1, p2⟩, p3⟩] ++ xs.drop k)))), HIs (.bool true)] L i x y)
                  (by kernel_rfl) (fun u => by simp only [frU, Act.put, List.setIfInBounds_toArray, List.set_cons_succ, List.set_cons_zero, Nat.zero_add, Nat.reduceAdd]; exact rfl) (by kernel_rfl) ⟨rfl, rfl, rfl, Nat.le_refl _, fun _ _ => rfl⟩ ?hs1 ?hend1
                case hs1 =>
                  have hG : HAll [HTill 4 (fun x y => ∃ ad, y = .slice (some ad) 0 0 ∧ OwnEn W.heap.size x y []), HIs (.slice a n cap), HIs (.int .i64 k), HIs (.slice a k cap), HTill 7 (fun x y => OwnEn W.heap.size x y (xs.take k)), HIs (.agg #[.int .i64 p1, .int .i64 p2, .int .i64 p3]), HTill 7 (LitEn ⟨⟨p1, p2⟩, p3⟩), HAnd 4 (HTill 11 (fun x y => OwnEn W.heap.size x y (xs.take k ++ [⟨⟨p1, p2⟩, p3⟩]))), HIs (.slice a n cap), HIs (.int .i64 k), HIs (.slice (dropA a cap k 3) (n - k) (cap - k)), HAnd 7 (HW (fun x y => OwnEn W.heap.size x y (xs.take k ++ [⟨⟨p1, p2⟩, p3⟩] ++ xs.drop k))), HAnd 7 (HAnd 11 (HW (fun x y => OwnEn W.heap.size x y (xs.take k ++ [⟨⟨p1, p2⟩, p3⟩] ++ xs.drop k)))), HIs (.bool true)] := ⟨hstb_till (fun _ _ _ hb h => by obtain ⟨ad, h1, h2⟩ := h; exact ⟨ad, h1, OwnSl.kept h2 hb⟩), hstb_is _, hstb_is _, hstb_is _, hstb_till (fun _ _ _ hb h => OwnSl.kept h hb), hstb_is _, hstb_till (litEn_st _), hstb_and (hstb_till (fun _ _ _ hb h => OwnSl.kept h hb)), hstb_is _, hstb_is _, hstb_is _, hstb_and (hstb_w (fun _ _ _ hb h => OwnSl.kept h hb)), hstb_and (hstb_and (hstb_w (fun _ _ _ hb h => OwnSl.kept h hb))), hstb_is _, trivial⟩
                  clear HT
                  refine ⟨?_, ?_, ?_, ?_, ?_, ?_, ?_, ?_, ?_, ?_, ?_, ?_, ?_, ?_, trivial⟩
                  · refine stepR (fun L u w3 hL hC hd => ⟨rfl, fun Q K hK => ?_⟩)
                    clear hd
                    go_step
                    exact hK _ _ rfl (hC.alloc hC.size _) (.inr ⟨_, rfl, OwnEn.lit hC.size⟩) (fun j x hj hL9 h9 => hof_stb _ hG L 0 j _ _ _ ((Below.refl _ _).alloc (Nat.le_refl _) _) h9)
                  · refine stepR (fun L u w3 hL hC hd => ⟨rfl, fun Q K hK => ?_⟩)
                    clear hd
                    go_step
                    exact hK _ _ rfl hC rfl (fun j x hj hL9 h9 => hof_stb _ hG L 1 j _ _ _ (Below.refl _ _) h9)
                  · refine stepR (fun L u w3 hL hC hd => ⟨rfl, fun Q K hK => ?_⟩)
                    clear hd
                    go_step
                    exact hK _ _ rfl hC rfl (fun j x hj hL9 h9 => hof_stb _ hG L 2 j _ _ _ (Below.refl _ _) h9)
                  · refine stepR (fun L u w3 hL hC hd => ⟨rfl, fun Q K hK => ?_⟩)
                    have hu1 := his (L := L) (w := w3) (hd 1 rfl).2
                    rw [hu1] at hK ⊢
                    have hu2 := his (L := L) (w := w3) (hd 2 rfl).2
                    rw [hu2] at hK ⊢
                    clear hd
                    refine wp_slice_to rfl Try.underlying25 hi rfl rfl (by omega) ?_
                    exact hK _ _ rfl hC rfl (fun j x hj hL9 h9 => hof_stb _ hG L 3 j _ _ _ (Below.refl _ _) h9)
                  · refine stepR (fun L u w3 hL hC hd => ⟨rfl, fun Q K hK => ?_⟩)
                    have hu3 := his (L := L) (w := w3) (hd 3 rfl).2
                    rw [hu3] at hK ⊢
                    have h0 : HTill 4 (fun x y => ∃ ad, y = .slice (some ad) 0 0 ∧ OwnEn W.heap.size x y []) L w3 (u 0) := (hd 0 rfl).2
                    obtain ⟨ad, hu0, ho0⟩ := htill h0 hL
                    rw [hu0] at hK ho0 ⊢
                    clear hd h0
                    obtain ⟨v5, w5, hrun, ho5, hb5⟩ := run_append_copy (sz := 3) (enc := En.enc) (by omega) (fun _ => rfl) (P := Try.prog) (w := w3) 25 25 35 i0 _ 24 Try.underlying25 hi hy0 hy1 hy2 rfl (base := W.heap.size) ad ho0 hC.size (SlAt.below (SlAt.take HSW.out kn) hC) (by rw [List.length_take]; omega)
                    refine wp_append_run _ _ _ rfl rfl rfl hrun ?_
                    exact hK _ _ rfl (hC.trans (hb5.mono hC.size)) (.inr ho5) (fun j x hj hL9 h9 => hof_stb _ hG L 4 j _ _ _ hb5 h9)
                  · refine stepR (fun L u w3 hL hC hd => ⟨rfl, fun Q K hK => ?_⟩)
                    clear hd
                    have e0 := (hC.cell (p := ⟨w.heap.size, 0, none⟩) hEW).trans d0
                    have e1 := (hC.cell (p := ⟨w.heap.size, 1, none⟩) hEW).trans d1
                    have e2 := (hC.cell (p := ⟨w.heap.size, 2, none⟩) hEW).trans d2
                    go_step
                    exact hK _ _ rfl hC rfl (fun j x hj hL9 h9 => hof_stb _ hG L 5 j _ _ _ (Below.refl _ _) h9)
                  · refine stepR (fun L u w3 hL hC hd => ⟨rfl, fun Q K hK => ?_⟩)
                    have hu5 := his (L := L) (w := w3) (hd 5 rfl).2
                    rw [hu5] at hK ⊢
                    clear hd
                    go_step
                    exact hK _ _ rfl (hC.alloc hC.size _) (.inr (litNew _ ⟨⟨p1, p2⟩, p3⟩)) (fun j x hj hL9 h9 => hof_stb _ hG L 6 j _ _ _ ((Below.refl _ _).alloc (Nat.le_refl _) _) h9)
                  · refine stepR (fun L u w3 hL hC hd => ⟨rfl, fun Q K hK => ?_⟩)
                    have hL4 := (hd 4 rfl).1
                    have h4 : HTill 7 (fun x y => OwnEn W.heap.size x y (xs.take k)) L w3 (u 4) := (hd 4 rfl).2
                    have h6 : HTill 7 (LitEn ⟨⟨p1, p2⟩, p3⟩) L w3 (u 6) := (hd 6 rfl).2
                    have ho4 := htill h4 hL
                    obtain ⟨g, hu6, hg, hcg⟩ := htill h6 hL
                    clear h4 h6
                    rw [hu6] at hK ⊢
                    clear hd
                    generalize u 4 = v4 at *
                    obtain ⟨g5, cap5, w5, hrun, hown5, hgr5, _, _⟩ := run_append_lies (P := Try.prog) (w := w3) 25 25 W.heap.size 35 i0 _ 3 24 Try.underlying25 hi hy0 hy1 hy2 rfl (by decide) v4 (xs.take k).length _ ho4 ⟨g, 0, none⟩ 1 1 (En.enc ⟨⟨p1, p2⟩, p3⟩) rfl (fun j c hj => by rw [Addr.add_lit]; exact hcg j c hj) (by simp [Value.oneCell']) (by omega) (by rw [List.length_take]; simp only [maxLen]; omega) (by rw [List.length_take]; omega) hC.size w3.heap.size rfl
                    refine wp_append_run _ _ _ rfl rfl rfl hrun ?_
                    have hC5 : Below W.heap.size W w5 := belGrown hC ho4 hgr5 hC.size
                    refine hK _ _ rfl hC5 ⟨setKeeps hL4, .inr (OwnSl.pushed rfl hown5)⟩ (fun j x hj hL9 h9 => hof_endL _ 0 ?_ j _ _ _ (by omega) h9)
                    exact ⟨el_till 4 _ (setKeeps hL4), el_is _, el_is _, el_is _, el_till 7 _ (set_now hL), el_is _, el_till 7 _ (set_now hL), el_self _, el_is _, el_is _, el_is _, el_late hL, el_late hL, el_is _, trivial⟩
                  · refine stepR (fun L u w3 hL hC hd => ⟨rfl, fun Q K hK => ?_⟩)
                    clear hd
                    go_step
                    exact hK _ _ rfl hC rfl (fun j x hj hL9 h9 => hof_stb _ hG L 8 j _ _ _ (Below.refl _ _) h9)
                  · refine stepR (fun L u w3 hL hC hd => ⟨rfl, fun Q K hK => ?_⟩)
                    clear hd
                    go_step
                    exact hK _ _ rfl hC rfl (fun j x hj hL9 h9 => hof_stb _ hG L 9 j _ _ _ (Below.refl _ _) h9)
                  · refine stepR (fun L u w3 hL hC hd => ⟨rfl, fun Q K hK => ?_⟩)
                    have hu8 := his (L := L) (w := w3) (hd 8 rfl).2
                    rw [hu8] at hK ⊢
                    have hu9 := his (L := L) (w := w3) (hd 9 rfl).2
                    rw [hu9] at hK ⊢
                    clear hd
                    refine wp_slice_from (sz := 3) rfl Try.underlying25 hi hy1 rfl rfl kn ?_
                    exact hK _ _ rfl hC rfl (fun j x hj hL9 h9 => hof_stb _ hG L 10 j _ _ _ (Below.refl _ _) h9)
                  · refine stepR (fun L u w3 hL hC hd => ⟨rfl, fun Q K hK => ?_⟩)
                    have hu10 := his (L := L) (w := w3) (hd 10 rfl).2
                    rw [hu10] at hK ⊢
                    have h77 : HAnd 4 (HTill 11 (fun x y => OwnEn W.heap.size x y (xs.take k ++ [⟨⟨p1, p2⟩, p3⟩]))) L w3 (u 7) := (hd 7 rfl).2
                    obtain ⟨hL4, h7⟩ := h77
                    have hL7 := (hd 7 rfl).1
                    have ho7 : OwnEn W.heap.size w3 (u 7) (xs.take k ++ [⟨⟨p1, p2⟩, p3⟩]) := htill h7 hL
                    clear hd h7
                    generalize u 7 = v7 at *
                    have hsd : Ens w3 (.slice (dropA a cap k 3) (n - k) (cap - k)) (xs.drop k) := SlAt.below (SlAt.drop HSW.out kn) hC
                    obtain ⟨v5, w5, hrun, ho5, hC5⟩ := own_append_any (W := W) (P := Try.prog) (w := w3) (sz := 3) (enc := En.enc) (by omega) (fun _ => rfl) 25 25 35 i0 _ 24 Try.underlying25 hi hy0 hy1 hy2 rfl (en_one _) ho7 (by simp) hsd (by simp only [List.length_append, List.length_take, List.length_drop, List.length_singleton, HN.out]; omega) (by simp only [List.length_append, List.length_take, List.length_drop, List.length_singleton, HN.out, maxLen]; omega) hC
                    refine wp_append_run _ _ _ rfl rfl rfl hrun ?_
                    refine hK _ _ rfl hC5 ⟨setKeeps hL7, ho5⟩ (fun j x hj hL9 h9 => hof_endL _ 0 ?_ j _ _ _ (by omega) h9)
                    exact ⟨el_till 4 _ (setKeeps hL4), el_is _, el_is _, el_is _, el_till 7 _ (setKeeps hL7), el_is _, el_till 7 _ (setKeeps hL7), el_and 4 (el_till 11 _ (set_now hL)), el_is _, el_is _, el_is _, el_self _, el_and 7 (el_late hL), el_is _, trivial⟩
                  · refine stepR (fun L u w3 hL hC hd => ⟨rfl, fun Q K hK => ?_⟩)
                    have ho : OwnEn W.heap.size w3 (u 11) (xs.take k ++ [⟨⟨p1, p2⟩, p3⟩] ++ xs.drop k) := (hd 11 rfl).2.2
                    have hL7 := (hd 11 rfl).2.1
                    have hL11 := (hd 11 rfl).1
                    clear hd
                    generalize u 11 = v11 at *
                    go_step
                    exact hK _ _ rfl hC ⟨setKeeps hL7, setKeeps hL11, ho⟩ (fun j x hj hL9 h9 => hof_stb _ hG L 12 j _ _ _ (Below.refl _ _) h9)
                  · refine stepR (fun L u w3 hL hC hd => ⟨rfl, fun Q K hK => ?_⟩)
                    clear hd
                    go_step
                    exact hK _ _ rfl hC rfl (fun j x hj hL9 h9 => hof_stb _ hG L 13 j _ _ _ (Below.refl _ _) h9)
                case hend1 =>
                  intro L u w9 hL hC hF
                  have ho : OwnEn W.heap.size w9 (u 12) (xs.take k ++ [⟨⟨p1, p2⟩, p3⟩] ++ xs.drop k) := (hF 12 (by simp)).2.2
                  have g13 := his (L := L) (w := w9) (hF 13 (by simp))
                  rw [g13]
                  generalize u 12 = v12 at *
                  have HO := Lib.hid ho
                  clear ho hF
                  go_wp2_with fail
                  go_ret2
                  rw [HR.out]
                  exact ⟨_, rfl, OwnSl.mono HO.out hWb.size, hWb.trans (hC.mono hWb.size)⟩
          · go_wp2_with fail
            refine wp_region_over (by kernel_rfl) (by kernel_rfl) (fun ov => ?_); have ov0 := fun x => ov x (b) (by (try simp) <;> omega); have ov1 := fun x => ov x (w.heap.size) (by (try simp) <;> omega); clear ov; (repeat (go_big_quiet_step (first | (go_at_call 43; exact callsOver (before_b hl _))))); refine wpQuiet_nil ?_; intro w9 hw9; have hb_w9 := below_over hw9; clear hw9 ov0 ov1
            have hq9 : Below w3.heap.size w3 w9 := hbr.trans (hb_w9.mono hzr)
            go_wp2
            go_roundw
            case rel =>
              refine ⟨k + 1, by omega, by go_num, fun i x hi hx => ?_, hq9⟩
              rcases (by omega : i < k ∨ i = k) with hi | rfl
              · exact HL.out i x hi hx
              · rw [HX.out] at hx; cases hx; exact hl
            case measure => simp [intOf]; omega
        · have hkn : k = n := by omega
          have HPL := Lib.hid (place_eq xs k HL.out (.inl (by rw [HN.out]; omega)) (by rw [HN.out]; exact kn))
          have HNE := Lib.hid (show ¬ (xs[place xs ⟨p1, p2⟩]?).map (·.w) = some ⟨p1, p2⟩ by rw [HPL.out, List.getElem?_eq_none (by rw [HN.out]; omega)]; simp)
          have gk : decide (k < n) = false := by simp; omega
          have gk' : decide ((k : Int) < (n : Int)) = false := by simp; omega
          have HKN := Lib.hid hkn; clear hkn
          go_wp2_with fail
          refine wp_region_over (by kernel_rfl) (by kernel_rfl) (fun ov => ?_); have ov0 := fun x => ov x (w.heap.size) (by (try simp) <;> omega); clear ov; (repeat (go_big_quiet_step (first | fail))); refine wpQuiet_nil ?_; intro w8 hw9; have hb_w8 := below_over hw9; clear hw9 ov0
          have hz8 := hb_w8.size
          have ke := ownCells hb_w8 w.heap.size (by omega)
          go_wp2_with fail
          refine wp_region_over (by kernel_rfl) (by kernel_rfl) (fun ov => ?_); have ov0 := fun x => ov x (w.heap.size) (by (try simp) <;> omega); clear ov; (repeat (go_big_quiet_step (first | fail))); refine wpQuiet_nil ?_; intro W hw9; have hb_W := below_over hw9; clear hw9 ov0
          have hW3 : Below w3.heap.size w3 W := hbr.trans ((hb_w8.trans (hb_W.mono hz8)).mono hzr)
          have hzW := hW3.size
          have hWb : Below w.heap.size w W := hw3.trans (hW3.mono hw3.size)
          have HSW := Lib.hid (hs.below hWb)
          have hEW : w.heap.size < W.heap.size := by omega
          have d0 := (hW3.cell (p := ⟨w.heap.size, 0, none⟩) (by omega)).trans q0; have d1 := (hW3.cell (p := ⟨w.heap.size, 1, none⟩) (by omega)).trans q1; have d2 := (hW3.cell (p := ⟨w.heap.size, 2, none⟩) (by omega)).trans q2
          clear hb_w8 hb_W ke e0 e1 e2 hs4 gk gk'
          by_cases h30' : n = 30
          · have HR := Lib.hid (show res = (xs, false) by rw [HT.out, if_neg HNE.out, if_pos (by rw [HN.out]; exact h30')])
            have g30 : ((n : Int) == 30) = true := by simpa using (by omega : (n : Int) = 30)
            clear h30'
            go_wp2_with fail
            go_ret2
            rw [HR.out]
            exact ⟨_, rfl, OwnSl.mono (OwnSl.kept HO3.out hW3) (by omega), hWb⟩
          · have HR := Lib.hid (show res = (xs.take k ++ [⟨⟨p1, p2⟩, p3⟩] ++ xs.drop k, true) by rw [HT.out, if_neg HNE.out, if_neg (by rw [HN.out]; exact h30'), HPL.out])
            have g30 : ((n : Int) == 30) = false := by simpa using (by omega : (n : Int) ≠ 30)
            clear h30'
            go_upto_region 12 with (fail)
            refine wp_region_rel2 (fun _ x => Below W.heap.size W x) (fun L i x y => Hof [HTill 4 (fun x y => ∃ ad, y = .slice (some ad) 0 0 ∧ OwnEn W.heap.size x y []), HIs (.slice a n cap), HIs (.int .i64 k), HIs (.slice a k cap), HTill 7 (fun x y => OwnEn W.heap.size x y (xs.take k)), HIs (.agg #[.int .i64 p1, .int .i64 p2, .int .i64 p3]), HTill 7 (LitEn ⟨⟨p1, p2⟩, p3⟩), HAnd 4 (HTill 11 (fun x y => OwnEn W.heap.size x y (xs.take k ++ [⟨⟨p1, p2⟩, p3⟩]))), HIs (.slice a n cap), HIs (.int .i64 k), HIs (.slice (dropA a cap k 3) (n - k) (cap - k)), HAnd 7 (HW (fun x y => OwnEn W.heap.size x y (xs.take k ++ [⟨⟨p1, p2⟩, p3⟩] ++ xs.drop k))), HAnd 7 (HAnd 11 (HW (fun x y => OwnEn W.heap.size x y (xs.take k ++ [⟨⟨p1, p2⟩, p3⟩] ++ xs.drop k)))), HIs (.bool true)] L i x y)
              (by kernel_rfl) (fun u => by simp only [frU, Act.put, List.setIfInBounds_toArray, List.set_cons_succ, List.set_cons_zero, Nat.zero_add, Nat.reduceAdd]; exact rfl) (by kernel_rfl) ⟨rfl, rfl, rfl, Nat.le_refl _, fun _ _ => rfl⟩ ?hs2 ?hend2
            case hs2 =>
              have hG : HAll [HTill 4 (fun x y => ∃ ad, y = .slice (some ad) 0 0 ∧ OwnEn W.heap.size x y []), HIs (.slice a n cap), HIs (.int .i64 k), HIs (.slice a k cap), HTill 7 (fun x y => OwnEn W.heap.size x y (xs.take k)), HIs (.agg #[.int .i64 p1, .int .i64 p2, .int .i64 p3]), HTill 7 (LitEn ⟨⟨p1, p2⟩, p3⟩), HAnd 4 (HTill 11 (fun x y => OwnEn W.heap.size x y (xs.take k ++ [⟨⟨p1, p2⟩, p3⟩]))), HIs (.slice a n cap), HIs (.int .i64 k), HIs (.slice (dropA a cap k 3) (n - k) (cap - k)), HAnd 7 (HW (fun x y => OwnEn W.heap.size x y (xs.take k ++ [⟨⟨p1, p2⟩, p3⟩] ++ xs.drop k))), HAnd 7 (HAnd 11 (HW (fun x y => OwnEn W.heap.size x y (xs.take k ++ [⟨⟨p1, p2⟩, p3⟩] ++ xs.drop k)))), HIs (.bool true)] := ⟨hstb_till (fun _ _ _ hb h => by obtain ⟨ad, h1, h2⟩ := h; exact ⟨ad, h1, OwnSl.kept h2 hb⟩), hstb_is _, hstb_is _, hstb_is _, hstb_till (fun _ _ _ hb h => OwnSl.kept h hb), hstb_is _, hstb_till (litEn_st _), hstb_and (hstb_till (fun _ _ _ hb h => OwnSl.kept h hb)), hstb_is _, hstb_is _, hstb_is _, hstb_and (hstb_w (fun _ _ _ hb h => OwnSl.kept h hb)), hstb_and (hstb_and (hstb_w (fun _ _ _ hb h => OwnSl.kept h hb))), hstb_is _, trivial⟩
              clear HT
              refine ⟨?_, ?_, ?_, ?_, ?_, ?_, ?_, ?_, ?_, ?_, ?_, ?_, ?_, ?_, trivial⟩
              · refine stepR (fun L u w3 hL hC hd => ⟨rfl, fun Q K hK => ?_⟩)
                clear hd
                go_step
                exact hK _ _ rfl (hC.alloc hC.size _) (.inr ⟨_, rfl, OwnEn.lit hC.size⟩) (fun j x hj hL9 h9 => hof_stb _ hG L 0 j _ _ _ ((Below.refl _ _).alloc (Nat.le_refl _) _) h9)
              · refine stepR (fun L u w3 hL hC hd => ⟨rfl, fun Q K hK => ?_⟩)
                clear hd
                go_step
                exact hK _ _ rfl hC rfl (fun j x hj hL9 h9 => hof_stb _ hG L 1 j _ _ _ (Below.refl _ _) h9)
              · refine stepR (fun L u w3 hL hC hd => ⟨rfl, fun Q K hK => ?_⟩)
                clear hd
                go_step
                exact hK _ _ rfl hC rfl (fun j x hj hL9 h9 => hof_stb _ hG L 2 j _ _ _ (Below.refl _ _) h9)
              · refine stepR (fun L u w3 hL hC hd => ⟨rfl, fun Q K hK => ?_⟩)
                have hu1 := his (L := L) (w := w3) (hd 1 rfl).2
                rw [hu1] at hK ⊢
                have hu2 := his (L := L) (w := w3) (hd 2 rfl).2
                rw [hu2] at hK ⊢
                clear hd
                refine wp_slice_to rfl Try.underlying25 hi rfl rfl (by omega) ?_
                exact hK _ _ rfl hC rfl (fun j x hj hL9 h9 => hof_stb _ hG L 3 j _ _ _ (Below.refl _ _) h9)
              · refine stepR (fun L u w3 hL hC hd => ⟨rfl, fun Q K hK => ?_⟩)
                have hu3 := his (L := L) (w := w3) (hd 3 rfl).2
                rw [hu3] at hK ⊢
                have h0 : HTill 4 (fun x y => ∃ ad, y = .slice (some ad) 0 0 ∧ OwnEn W.heap.size x y []) L w3 (u 0) := (hd 0 rfl).2
                obtain ⟨ad, hu0, ho0⟩ := htill h0 hL
                rw [hu0] at hK ho0 ⊢
                clear hd h0
                obtain ⟨v5, w5, hrun, ho5, hb5⟩ := run_append_copy (sz := 3) (enc := En.enc) (by omega) (fun _ => rfl) (P := Try.prog) (w := w3) 25 25 35 i0 _ 24 Try.underlying25 hi hy0 hy1 hy2 rfl (base := W.heap.size) ad ho0 hC.size (SlAt.below (SlAt.take HSW.out kn) hC) (by rw [List.length_take]; omega)
                refine wp_append_run _ _ _ rfl rfl rfl hrun ?_
                exact hK _ _ rfl (hC.trans (hb5.mono hC.size)) (.inr ho5) (fun j x hj hL9 h9 => hof_stb _ hG L 4 j _ _ _ hb5 h9)
              · refine stepR (fun L u w3 hL hC hd => ⟨rfl, fun Q K hK => ?_⟩)
                clear hd
                have e0 := (hC.cell (p := ⟨w.heap.size, 0, none⟩) hEW).trans d0
                have e1 := (hC.cell (p := ⟨w.heap.size, 1, none⟩) hEW).trans d1
                have e2 := (hC.cell (p := ⟨w.heap.size, 2, none⟩) hEW).trans d2
                go_step
                exact hK _ _ rfl hC rfl (fun j x hj hL9 h9 => hof_stb _ hG L 5 j _ _ _ (Below.refl _ _) h9)
              · refine stepR (fun L u w3 hL hC hd => ⟨rfl, fun Q K hK => ?_⟩)
                have hu5 := his (L := L) (w := w3) (hd 5 rfl).2
                rw [hu5] at hK ⊢
                clear hd
                go_step
                exact hK _ _ rfl (hC.alloc hC.size _) (.inr (litNew _ ⟨⟨p1, p2⟩, p3⟩)) (fun j x hj hL9 h9 => hof_stb _ hG L 6 j _ _ _ ((Below.refl _ _).alloc (Nat.le_refl _) _) h9)
              · refine stepR (fun L u w3 hL hC hd => ⟨rfl, fun Q K hK => ?_⟩)
                have hL4 := (hd 4 rfl).1
                have h4 : HTill 7 (fun x y => OwnEn W.heap.size x y (xs.take k)) L w3 (u 4) := (hd 4 rfl).2
                have h6 : HTill 7 (LitEn ⟨⟨p1, p2⟩, p3⟩) L w3 (u 6) := (hd 6 rfl).2
                have ho4 := htill h4 hL
                obtain ⟨g, hu6, hg, hcg⟩ := htill h6 hL
                clear h4 h6
                rw [hu6] at hK ⊢
                clear hd
                generalize u 4 = v4 at *
                obtain ⟨g5, cap5, w5, hrun, hown5, hgr5, _, _⟩ := run_append_lies (P := Try.prog) (w := w3) 25 25 W.heap.size 35 i0 _ 3 24 Try.underlying25 hi hy0 hy1 hy2 rfl (by decide) v4 (xs.take k).length _ ho4 ⟨g, 0, none⟩ 1 1 (En.enc ⟨⟨p1, p2⟩, p3⟩) rfl (fun j c hj => by rw [Addr.add_lit]; exact hcg j c hj) (by simp [Value.oneCell']) (by omega) (by rw [List.length_take]; simp only [maxLen]; omega) (by rw [List.length_take]; omega) hC.size w3.heap.size rfl
                refine wp_append_run _ _ _ rfl rfl rfl hrun ?_
                have hC5 : Below W.heap.size W w5 := belGrown hC ho4 hgr5 hC.size
                refine hK _ _ rfl hC5 ⟨setKeeps hL4, .inr (OwnSl.pushed rfl hown5)⟩ (fun j x hj hL9 h9 => hof_endL _ 0 ?_ j _ _ _ (by omega) h9)
                exact ⟨el_till 4 _ (setKeeps hL4), el_is _, el_is _, el_is _, el_till 7 _ (set_now hL), el_is _, el_till 7 _ (set_now hL), el_self _, el_is _, el_is _, el_is _, el_late hL, el_late hL, el_is _, trivial⟩
              · refine stepR (fun L u w3 hL hC hd => ⟨rfl, fun Q K hK => ?_⟩)
                clear hd
                go_step
                exact hK _ _ rfl hC rfl (fun j x hj hL9 h9 => hof_stb _ hG L 8 j _ _ _ (Below.refl _ _) h9)
              · refine stepR (fun L u w3 hL hC hd => ⟨rfl, fun Q K hK => ?_⟩)
                clear hd
                go_step
                exact hK _ _ rfl hC rfl (fun j x hj hL9 h9 => hof_stb _ hG L 9 j _ _ _ (Below.refl _ _) h9)
              · refine stepR (fun L u w3 hL hC hd => ⟨rfl, fun Q K hK => ?_⟩)
                have hu8 := his (L := L) (w := w3) (hd 8 rfl).2
                rw [hu8] at hK ⊢
                have hu9 := his (L := L) (w := w3) (hd 9 rfl).2
                rw [hu9] at hK ⊢
                clear hd
                refine wp_slice_from (sz := 3) rfl Try.underlying25 hi hy1 rfl rfl kn ?_
                exact hK _ _ rfl hC rfl (fun j x hj hL9 h9 => hof_stb _ hG L 10 j _ _ _ (Below.refl _ _) h9)
              · refine stepR (fun L u w3 hL hC hd => ⟨rfl, fun Q K hK => ?_⟩)
                have hu10 := his (L := L) (w := w3) (hd 10 rfl).2
                rw [hu10] at hK ⊢
                have h77 : HAnd 4 (HTill 11 (fun x y => OwnEn W.heap.size x y (xs.take k ++ [⟨⟨p1, p2⟩, p3⟩]))) L w3 (u 7) := (hd 7 rfl).2
                obtain ⟨hL4, h7⟩ := h77
                have hL7 := (hd 7 rfl).1
                have ho7 : OwnEn W.heap.size w3 (u 7) (xs.take k ++ [⟨⟨p1, p2⟩, p3⟩]) := htill h7 hL
                clear hd h7
                generalize u 7 = v7 at *
                have hsd : Ens w3 (.slice (dropA a cap k 3) (n - k) (cap - k)) (xs.drop k) := SlAt.below (SlAt.drop HSW.out kn) hC
                obtain ⟨v5, w5, hrun, ho5, hC5⟩ := own_append_any (W := W) (P := Try.prog) (w := w3) (sz := 3) (enc := En.enc) (by omega) (fun _ => rfl) 25 25 35 i0 _ 24 Try.underlying25 hi hy0 hy1 hy2 rfl (en_one _) ho7 (by simp) hsd (by simp only [List.length_append, List.length_take, List.length_drop, List.length_singleton, HN.out]; omega) (by simp only [List.length_append, List.length_take, List.length_drop, List.length_singleton, HN.out, maxLen]; omega) hC
                refine wp_append_run _ _ _ rfl rfl rfl hrun ?_
                refine hK _ _ rfl hC5 ⟨setKeeps hL7, ho5⟩ (fun j x hj hL9 h9 => hof_endL _ 0 ?_ j _ _ _ (by omega) h9)
                exact ⟨el_till 4 _ (setKeeps hL4), el_is _, el_is _, el_is _, el_till 7 _ (setKeeps hL7), el_is _, el_till 7 _ (setKeeps hL7), el_and 4 (el_till 11 _ (set_now hL)), el_is _, el_is _, el_is _, el_self _, el_and 7 (el_late hL), el_is _, trivial⟩
              · refine stepR (fun L u w3 hL hC hd => ⟨rfl, fun Q K hK => ?_⟩)
                have ho : OwnEn W.heap.size w3 (u 11) (xs.take k ++ [⟨⟨p1, p2⟩, p3⟩] ++ xs.drop k) := (hd 11 rfl).2.2
                have hL7 := (hd 11 rfl).2.1
                have hL11 := (hd 11 rfl).1
                clear hd
                generalize u 11 = v11 at *
                go_step
                exact hK _ _ rfl hC ⟨setKeeps hL7, setKeeps hL11, ho⟩ (fun j x hj hL9 h9 => hof_stb _ hG L 12 j _ _ _ (Below.refl _ _) h9)
              · refine stepR (fun L u w3 hL hC hd => ⟨rfl, fun Q K hK => ?_⟩)
                clear hd
                go_step
                exact hK _ _ rfl hC rfl (fun j x hj hL9 h9 => hof_stb _ hG L 13 j _ _ _ (Below.refl _ _) h9)
            case hend2 =>
              intro L u w9 hL hC hF
              have ho : OwnEn W.heap.size w9 (u 12) (xs.take k ++ [⟨⟨p1, p2⟩, p3⟩] ++ xs.drop k) := (hF 12 (by simp)).2.2
              have g13 := his (L := L) (w := w9) (hF 13 (by simp))
              rw [g13]
              generalize u 12 = v12 at *
              have HO := Lib.hid ho
              clear ho hF
              go_wp2_with fail
              go_ret2
              rw [HR.out]
              exact ⟨_, rfl, OwnSl.mono HO.out hWb.size, hWb.trans (hC.mono hWb.size)⟩
end Go.Proofs.Ytfnfpekjjmejnaa
