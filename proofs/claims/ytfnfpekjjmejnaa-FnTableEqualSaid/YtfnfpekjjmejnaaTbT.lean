/- The search in a trie, and the reference's TableFind. -/
import Derived.Test.YtfnfpekjjmejnaaTbF
namespace Go.Proofs.Ytfnfpekjjmejnaa
open Go.RowKit
def valAt (xs : List En) (r : Int) : Int := if r < 0 then -1 else match xs[r.toNat]? with
  | some y => y.v
  | none => -1
def tfind (xs : List En) (a : Int) : Int := if tvalid xs && inB a 0 65535 then valAt xs (sf xs ⟨a, 16⟩ (-1) xs.length) else -1
set_option maxHeartbeats 1000000 in
theorem specTF_any (xs : List En) (v : Value) (a : Int) (w : World) (hs : Ens w v xs) :
    Calls Try.prog 22 #[v, .int .i64 a] w fun e w' => e = .returned (.int .i64 (tfind xs a)) ∧ Below w.heap.size w w' := by
  obtain ⟨sa, cap, rfl, hlc, hcm, -⟩ := id hs
  unfold maxLen at hcm
  cases hv : tvalid xs
  · have HT := Lib.hid (show tfind xs a = -1 by simp [tfind, hv])
    rw [HT.out]
    generalize hn : xs.length = n at *
    clear hn
    go_enter Try.func22, Try.ntmps22
    
    go_wp2_with fail; refine (specTV_b hs hv).mono ?_; rintro e w1 ⟨rfl, hb1⟩; obtain ⟨hc1, hf1⟩ := bcell hb1; have hz1 := hb1.size; (try simp at hz1); (try have hz1_w_0 : w.heap.size < w1.heap.size := (by omega)); (try have hz1_w_1 : w.heap.size + 1 < w1.heap.size := (by omega)); (try have hz1_w_2 : w.heap.size + 2 < w1.heap.size := (by omega))
    go_wp2
    go_ret
    exact ⟨rfl, by (repeat' (first | with_reducible exact Below.refl _ _ | with_reducible assumption | with_reducible refine Below.setCell ?_ ?_ _ | with_reducible refine Below.alloc ?_ ?_ _ | with_reducible refine Below.drew ?_ | with_reducible refine belDrewN ?_ _ | with_reducible refine Below.trans ?_ (Below.mono (by assumption) ?_) | omega | (simp; omega) | (simp; done)))⟩
  · cases hu : inB a 0 65535
    · have HT := Lib.hid (show tfind xs a = -1 by simp [tfind, hu])
      rw [HT.out]
      generalize hn : xs.length = n at *
      clear hn
      go_enter Try.func22, Try.ntmps22
      
      go_wp2_with fail; refine (specTV_b hs hv).mono ?_; rintro e w1 ⟨rfl, hb1⟩; obtain ⟨hc1, hf1⟩ := bcell hb1; have hz1 := hb1.size; (try simp at hz1); (try have hz1_w_0 : w.heap.size < w1.heap.size := (by omega)); (try have hz1_w_1 : w.heap.size + 1 < w1.heap.size := (by omega)); (try have hz1_w_2 : w.heap.size + 2 < w1.heap.size := (by omega))
      go_wp2_with (go_at_call 42; refine (l1In_b hu _).mono ?_; rintro e w9 ⟨rfl, rfl⟩)
      go_ret
      exact ⟨rfl, by (repeat' (first | with_reducible exact Below.refl _ _ | with_reducible assumption | with_reducible refine Below.setCell ?_ ?_ _ | with_reducible refine Below.alloc ?_ ?_ _ | with_reducible refine Below.drew ?_ | with_reducible refine belDrewN ?_ _ | with_reducible refine Below.trans ?_ (Below.mono (by assumption) ?_) | omega | (simp; omega) | (simp; done)))⟩
    · have hok := sf_ok xs ⟨a, 16⟩ (-1) xs.length (Nat.le_refl _)
      have HT := Lib.hid (show tfind xs a = valAt xs (sf xs ⟨a, 16⟩ (-1) xs.length) by simp [tfind, hv, hu])
      rw [HT.out]
      clear HT
      generalize hr : sf xs ⟨a, 16⟩ (-1) xs.length = r at *
      have HR := Lib.hid hr
      clear hr
      rcases hok with ⟨rfl, -⟩ | ⟨j, y, h1, rfl, -, h4, -, -⟩
      · have HV := Lib.hid (show valAt xs (-1) = -1 by simp [valAt])
        rw [HV.out]
        generalize hn : xs.length = n at *
        have HN := Lib.hid hn
        clear hn
        go_enter Try.func22, Try.ntmps22
        
        go_wp2_with fail; refine (specTV_b hs hv).mono ?_; rintro e w1 ⟨rfl, hb1⟩; obtain ⟨hc1, hf1⟩ := bcell hb1; have hz1 := hb1.size; (try simp at hz1); (try have hz1_w_0 : w.heap.size < w1.heap.size := (by omega)); (try have hz1_w_1 : w.heap.size + 1 < w1.heap.size := (by omega)); (try have hz1_w_2 : w.heap.size + 2 < w1.heap.size := (by omega))
        go_wp2_with (first | (go_at_call 42; refine (l1In_b hu _).mono ?_; rintro e w9 ⟨rfl, rfl⟩) | (go_at_call 50; refine (l18Find_any xs _ a 16 (-1) _ (hs.below hb1)).mono ?_; rw [HN.out, HR.out]; rintro e w2 ⟨rfl, hb2⟩; have hz2 := hb2.size))
        go_ret
        exact ⟨rfl, by (repeat' (first | with_reducible exact Below.refl _ _ | with_reducible assumption | with_reducible refine Below.setCell ?_ ?_ _ | with_reducible refine Below.alloc ?_ ?_ _ | with_reducible refine Below.drew ?_ | with_reducible refine belDrewN ?_ _ | with_reducible refine Below.trans ?_ (Below.mono (by assumption) ?_) | omega | (simp; omega) | (simp; done)))⟩
      · obtain ⟨⟨e1, e2⟩, e3⟩ := y
        have HV := Lib.hid (show valAt xs (j : Int) = e3 by simp [valAt, h4]; omega)
        rw [HV.out]
        clear HV
        generalize hn : xs.length = n at *
        have HN := Lib.hid hn
        clear hn
        have i3 : (j : Int) < (n : Int) := by omega
        have i4 : (0 : Int) ≤ (j : Int) := by omega
        have i5 : decide ((j : Int) < 0) = false := by simp
        go_enter Try.func22, Try.ntmps22
        
        go_wp2_with fail; refine (specTV_b hs hv).mono ?_; rintro e w1 ⟨rfl, hb1⟩; obtain ⟨hc1, hf1⟩ := bcell hb1; have hz1 := hb1.size; (try simp at hz1); (try have hz1_w_0 : w.heap.size < w1.heap.size := (by omega)); (try have hz1_w_1 : w.heap.size + 1 < w1.heap.size := (by omega)); (try have hz1_w_2 : w.heap.size + 2 < w1.heap.size := (by omega))
        go_wp2_with (go_at_call 42; refine (l1In_b hu _).mono ?_; rintro e w9 ⟨rfl, rfl⟩)
        refine (l18Find_any xs _ a 16 (-1) _ (hs.below hb1)).mono ?_
        rw [HN.out, HR.out]
        rintro e w2 ⟨rfl, hb2⟩
        have hz2 := hb2.size
        have hs2 := hs.below (hb1.trans (hb2.mono hz1))
        obtain ⟨b, o, f1, f2, f3, rfl, hbl, hx, c0, c1, c2⟩ := hs2.at (show j < xs.length by rw [HN.out]; exact h1)
        rw [h4] at hx
        cases hx
        clear h4
        go_wp2
        go_ret
        exact ⟨rfl, by (repeat' (first | with_reducible exact Below.refl _ _ | with_reducible assumption | with_reducible refine Below.setCell ?_ ?_ _ | with_reducible refine Below.alloc ?_ ?_ _ | with_reducible refine Below.drew ?_ | with_reducible refine belDrewN ?_ _ | with_reducible refine Below.trans ?_ (Below.mono (by assumption) ?_) | omega | (simp; omega) | (simp; done)))⟩
/-- A slice of nodes. -/
def Nds (w : World) (v : Value) (xs : List Nd) : Prop := SlAt 3 Nd.enc w v xs
theorem Nds.below {w w' : World} {v : Value} {xs : List Nd} (h : Nds w v xs) (hb : Below w.heap.size w w') : Nds w' v xs := SlAt.below h hb
theorem Nds.at {w : World} {a : Option Addr} {n cap : Nat} {xs : List Nd} (h : Nds w (.slice a n cap) xs) {k : Nat} {x : Nd} (hx : xs[k]? = some x) :
    ∃ b o, a = some ⟨b, o, none⟩ ∧ b < w.heap.size ∧
      w.cell? ⟨b, o + k * 3, none⟩ = some (.int .i64 x.n0) ∧ w.cell? ⟨b, o + k * 3 + 1, none⟩ = some (.int .i64 x.n1) ∧ w.cell? ⟨b, o + k * 3 + 2, none⟩ = some (.int .i64 x.v) := by
  obtain ⟨a', cap', he, _, _, hx'⟩ := h
  obtain ⟨rfl, _, _⟩ := Value.slice.inj he
  obtain ⟨b, o, ha, hb, hc⟩ := hx' k x hx
  exact ⟨b, o, ha, hb, hc 0 _ rfl, hc 1 _ rfl, hc 2 _ rfl⟩
theorem digitAt_b {x l b : Nat} (hl : l ≤ 15) (hx : x ≤ 65535) (h : x / 2 ^ (15 - l) % 2 = b) (w : World) :
    Calls Try.prog 67 #[.int .i64 x, .int .i64 l] w fun e w' => e = .returned (.int .i64 (b : Int)) ∧ w = w' := by
  subst h
  exact digitAt_any x l hl hx w
theorem digitAt_0 {x l : Nat} (hl : l ≤ 15) (hx : x ≤ 65535) (h : x / 2 ^ (15 - l) % 2 = 0) (w : World) :
    Calls Try.prog 67 #[.int .i64 x, .int .i64 l] w fun e w' => e = .returned (.int .i64 0) ∧ w = w' := digitAt_b hl hx h w
theorem digitAt_1 {x l : Nat} (hl : l ≤ 15) (hx : x ≤ 65535) (h : x / 2 ^ (15 - l) % 2 = 1) (w : World) :
    Calls Try.prog 67 #[.int .i64 x, .int .i64 l] w fun e w' => e = .returned (.int .i64 1) ∧ w = w' := digitAt_b hl hx h w
set_option maxHeartbeats 2000000 in
theorem trieFind_any (ps : List Path) (val : Path → Int) (hw : Wf ps val) (v : Value) (a : Nat) (ha : a ≤ 65535) (L : Int) (hL0 : -1 ≤ L) (hL1 : L ≤ 16) (w : World) (hs : Nds w v (nodes ps val)) :
    Calls Try.prog 52 #[v, .int .i64 a, .int .i64 L] w fun e w' => e = .returned (.int .i64 (best val a (L + 1).toNat)) ∧ Below w.heap.size w w' := by
  obtain ⟨sa, cap, rfl, hlc, hcm, -⟩ := id hs
  rw [length_nodes] at hs hlc ⊢
  unfold maxLen at hcm
  generalize hn : ps.length = n at *
  have HN := Lib.hid hn
  clear hn
  go_enter Try.func52, Try.ntmps52
  go_wp2_with fail
  go_loopw [7, 8, 9] (fun m nd i wr => ∃ d j : Nat, (d : Int) ≤ L + 1 ∧ m = .int .i64 (best val a d) ∧ nd = .int .i64 j ∧ i = .int .i64 d ∧ (d ≤ 16 → ps[j]? = some (pth a d)) ∧ Below w.heap.size w wr) (fun _ _ i _ => 17 - (intOf i).toNat)
  case atStart => exact ⟨0, 0, by omega, rfl, rfl, rfl, fun _ => by rw [pth_zero ha]; exact hw.root, by (repeat' (first | with_reducible exact Below.refl _ _ | with_reducible assumption | with_reducible refine Below.setCell ?_ ?_ _ | with_reducible refine Below.alloc ?_ ?_ _ | with_reducible refine Below.drew ?_ | with_reducible refine belDrewN ?_ _ | with_reducible refine Below.trans ?_ (Below.mono (by assumption) ?_) | omega | (simp; omega) | (simp; done)))⟩
  case round =>
    obtain ⟨d, j, hd, rfl, rfl, rfl, hj, hbr⟩ := hrel
    have hzr := hbr.size
    have hs2 := Lib.hid (hs.below hbr)
    by_cases hlt : (d : Int) ≤ L
    · have hd16 : d ≤ 16 := by omega
      have hps := hj hd16
      have hj1 : j < n := by rw [← HN.out]; exact (List.getElem?_eq_some_iff.1 hps).1
      obtain ⟨b, o, rfl, hbl, c0, c1, c2⟩ := hs2.out.at (nodes_get (val := val) hps)
      simp only [nodeOf] at c0 c1 c2
      have i1 : (j : Int) < (n : Int) := by omega
      have i2 : (0 : Int) ≤ (j : Int) := by omega
      have HB := Lib.hid (show best val a (d + 1) = if 0 ≤ val (pth a d) then val (pth a d) else best val a d from rfl)
      have HP := Lib.hid hps
      clear hj hps
      generalize hvv : val (pth a d) = vv at *
      clear hvv
      generalize hbb : best val a d = bb at *
      clear hbb
      generalize hb1 : best val a (d + 1) = b1 at *
      have HB1 := Lib.hid hb1
      clear hb1
      by_cases h16 : d = 16
      · have HL := Lib.hid (show best val a (L + 1).toNat = b1 by rw [← HB1.out]; congr 1; omega)
        have g1 : (d : Int) = 16 := by omega
        have hdd : ((d : Int) == 16) = true := by simpa using g1
        clear g1
        have H16 := Lib.hid h16
        clear h16
        go_wp2
        all_goals
          go_ret
          refine ⟨ret_int ?_, by (repeat' (first | with_reducible exact Below.refl _ _ | with_reducible assumption | with_reducible refine Below.setCell ?_ ?_ _ | with_reducible refine Below.alloc ?_ ?_ _ | with_reducible refine Below.drew ?_ | with_reducible refine belDrewN ?_ _ | with_reducible refine Below.trans ?_ (Below.mono (by assumption) ?_) | omega | (simp; omega) | (simp; done)))⟩
          rw [HL.out, HB.out]
          first | (rw [if_pos (by omega)]) | (rw [if_neg (by omega)])
      · have hdd : ((d : Int) == 16) = false := by simpa using (by omega : (d : Int) ≠ 16)
        have i3 : (0 : Int) ≤ (d : Int) := by omega
        rcases (show a / 2 ^ (15 - d) % 2 = 0 ∨ a / 2 ^ (15 - d) % 2 = 1 by omega) with hdg | hdg
        · have hlk := link_zero hw (q := pth a d) (b := 0)
          have hlg := @link_get ps (child (pth a d) 0)
          have hsu := pth_succ (a := a) (d := d) (by omega)
          rw [hdg] at hsu
          have HD := Lib.hid hdg
          clear hdg
          generalize hl : link ps (child (pth a d) 0) = l at *
          have HLK := Lib.hid hlk
          have HLG := Lib.hid hlg
          have HSU := Lib.hid hsu
          clear hlk hlg hsu hl
          by_cases hl0 : l = 0
          · subst hl0
            have HZ := Lib.hid (show best val a (L + 1).toNat = b1 by
              have hgone : pth a (d + 1) ∉ ps := by rw [HSU.out]; exact HLK.out.1 rfl
              have := best_gone hw hgone ((L + 1).toNat - (d + 1)) (by omega)
              rw [show d + 1 + ((L + 1).toNat - (d + 1)) = (L + 1).toNat by omega] at this
              rw [this, HB1.out])
            go_wp2_with fail
            all_goals
              refine wp_region_over (by kernel_rfl) (by kernel_rfl) (fun ov => ?_); have ov0 := fun x => ov x (b) (by (try simp) <;> omega); clear ov; (repeat (go_big_quiet_step (first | (go_at_call 67; exact callsOverSame (digitAt_0 (by omega) ha HD.out _))))); refine wpQuiet_nil ?_; intro w9 hw9; have hb_w9 := below_over hw9; clear hw9 ov0
              go_wp2
              go_ret
              refine ⟨ret_int ?_, by (repeat' (first | with_reducible exact Below.refl _ _ | with_reducible assumption | with_reducible refine Below.setCell ?_ ?_ _ | with_reducible refine Below.alloc ?_ ?_ _ | with_reducible refine Below.drew ?_ | with_reducible refine belDrewN ?_ _ | with_reducible refine Below.trans ?_ (Below.mono (by assumption) ?_) | omega | (simp; omega) | (simp; done)))⟩
              rw [HZ.out, HB.out]
              first | (rw [if_pos (by omega)]) | (rw [if_neg (by omega)])
          · have HG := Lib.hid (show ps[l]? = some (pth a (d + 1)) by
              rw [HSU.out]
              exact HLG.out (by
                cases Classical.em (child (pth a d) 0 ∈ ps) with
                | inl h => exact h
                | inr h => exact absurd (HLK.out.2 h) hl0))
            have g3 : ((l : Int) == 0) = false := by simpa using hl0
            go_wp2_with fail
            all_goals
              refine wp_region_over (by kernel_rfl) (by kernel_rfl) (fun ov => ?_); have ov0 := fun x => ov x (b) (by (try simp) <;> omega); clear ov; (repeat (go_big_quiet_step (first | (go_at_call 67; exact callsOverSame (digitAt_0 (by omega) ha HD.out _))))); refine wpQuiet_nil ?_; intro w9 hw9; have hb_w9 := below_over hw9; clear hw9 ov0
              go_wp2
              go_roundw
              case rel =>
                refine ⟨d + 1, l, by omega, ?_, rfl, by go_num, fun _ => HG.out, by (repeat' (first | with_reducible exact Below.refl _ _ | with_reducible assumption | with_reducible refine Below.setCell ?_ ?_ _ | with_reducible refine Below.alloc ?_ ?_ _ | with_reducible refine Below.drew ?_ | with_reducible refine belDrewN ?_ _ | with_reducible refine Below.trans ?_ (Below.mono (by assumption) ?_) | omega | (simp; omega) | (simp; done)))⟩
                rw [HB1.out, HB.out]
                first | (rw [if_pos (by omega)]) | (rw [if_neg (by omega)])
              case measure => simp [intOf]; omega
        · have hlk := link_zero hw (q := pth a d) (b := 1)
          have hlg := @link_get ps (child (pth a d) 1)
          have hsu := pth_succ (a := a) (d := d) (by omega)
          rw [hdg] at hsu
          have HD := Lib.hid hdg
          clear hdg
          generalize hl : link ps (child (pth a d) 1) = l at *
          have HLK := Lib.hid hlk
          have HLG := Lib.hid hlg
          have HSU := Lib.hid hsu
          clear hlk hlg hsu hl
          by_cases hl0 : l = 0
          · subst hl0
            have HZ := Lib.hid (show best val a (L + 1).toNat = b1 by
              have hgone : pth a (d + 1) ∉ ps := by rw [HSU.out]; exact HLK.out.1 rfl
              have := best_gone hw hgone ((L + 1).toNat - (d + 1)) (by omega)
              rw [show d + 1 + ((L + 1).toNat - (d + 1)) = (L + 1).toNat by omega] at this
              rw [this, HB1.out])
            go_wp2_with fail
            all_goals
              refine wp_region_over (by kernel_rfl) (by kernel_rfl) (fun ov => ?_); have ov0 := fun x => ov x (b) (by (try simp) <;> omega); clear ov; (repeat (go_big_quiet_step (first | (go_at_call 67; exact callsOverSame (digitAt_1 (by omega) ha HD.out _))))); refine wpQuiet_nil ?_; intro w9 hw9; have hb_w9 := below_over hw9; clear hw9 ov0
              go_wp2
              go_ret
              refine ⟨ret_int ?_, by (repeat' (first | with_reducible exact Below.refl _ _ | with_reducible assumption | with_reducible refine Below.setCell ?_ ?_ _ | with_reducible refine Below.alloc ?_ ?_ _ | with_reducible refine Below.drew ?_ | with_reducible refine belDrewN ?_ _ | with_reducible refine Below.trans ?_ (Below.mono (by assumption) ?_) | omega | (simp; omega) | (simp; done)))⟩
              rw [HZ.out, HB.out]
              first | (rw [if_pos (by omega)]) | (rw [if_neg (by omega)])
          · have HG := Lib.hid (show ps[l]? = some (pth a (d + 1)) by
              rw [HSU.out]
              exact HLG.out (by
                cases Classical.em (child (pth a d) 1 ∈ ps) with
                | inl h => exact h
                | inr h => exact absurd (HLK.out.2 h) hl0))
            have g3 : ((l : Int) == 0) = false := by simpa using hl0
            go_wp2_with fail
            all_goals
              refine wp_region_over (by kernel_rfl) (by kernel_rfl) (fun ov => ?_); have ov0 := fun x => ov x (b) (by (try simp) <;> omega); clear ov; (repeat (go_big_quiet_step (first | (go_at_call 67; exact callsOverSame (digitAt_1 (by omega) ha HD.out _))))); refine wpQuiet_nil ?_; intro w9 hw9; have hb_w9 := below_over hw9; clear hw9 ov0
              go_wp2
              go_roundw
              case rel =>
                refine ⟨d + 1, l, by omega, ?_, rfl, by go_num, fun _ => HG.out, by (repeat' (first | with_reducible exact Below.refl _ _ | with_reducible assumption | with_reducible refine Below.setCell ?_ ?_ _ | with_reducible refine Below.alloc ?_ ?_ _ | with_reducible refine Below.drew ?_ | with_reducible refine belDrewN ?_ _ | with_reducible refine Below.trans ?_ (Below.mono (by assumption) ?_) | omega | (simp; omega) | (simp; done)))⟩
                rw [HB1.out, HB.out]
                first | (rw [if_pos (by omega)]) | (rw [if_neg (by omega)])
              case measure => simp [intOf]; omega
    · have HE := Lib.hid (show d = (L + 1).toNat by omega)
      clear hj
      go_wp2
      go_ret
      exact ⟨ret_int (by rw [HE.out]), by (repeat' (first | with_reducible exact Below.refl _ _ | with_reducible assumption | with_reducible refine Below.setCell ?_ ?_ _ | with_reducible refine Below.alloc ?_ ?_ _ | with_reducible refine Below.drew ?_ | with_reducible refine belDrewN ?_ _ | with_reducible refine Below.trans ?_ (Below.mono (by assumption) ?_) | omega | (simp; omega) | (simp; done)))⟩
end Go.Proofs.Ytfnfpekjjmejnaa
