/- Live parts of rules: the program's walk. -/
import Derived.Test.YtgmonbhdgnamnaaDoorRgL
import Derived.Test.YtgmonbhdgnamnaaDoorLvP
import Derived.Test.YtgmonbhdgnamnaaDoorBxS
import Derived.Deep.DeepCutAuto
namespace Go.Proofs.YtgmonbhdgnamnaaDoor
open Go.RowKit
theorem Ifs.takeS {lo : Nat} {w : World} {a : Option Addr} {n cap : Nat} {fs : List Ft} (h : Ifs lo w (.slice a n cap) fs) {k : Nat} (hk : k ≤ n) : Ifs 0 w (.slice a k cap) (fs.take k) := by
  obtain ⟨rs, h1, h2⟩ := h
  refine ⟨rs.take k, SlFr.of (SlAt.take (SlFr.at h1) hk), ?_⟩
  refine ⟨by rw [List.length_take, List.length_take, h2.1], fun j x y hx hy => ?_⟩
  obtain ⟨h3, hx⟩ := get_take hx
  obtain ⟨_, hy⟩ := get_take hy
  obtain ⟨g1, g2⟩ := h2.2 j x y hx hy
  exact ⟨g1.mono (fun _ _ g => g.mono (Nat.zero_le _)), g2⟩
theorem less_r {lo lo' : Nat} {b : Bx} {xs : List Bx} {v0 v1 v2 v3 v : Value} {w : World} {R : Option (List Bx)} (h : blessB b xs = R) (ht : Tab w) (hs : All2 (Sps lo w) [v0, v1, v2, v3] b) (hr : Iss lo' w v xs) (hb : bvalid b = true) (hx : ∀ z ∈ xs, bvalid z = true) :
    Calls Tryd.prog 75 #[.agg #[v0, v1, v2, v3], v] w fun e w' => ∃ z, e = .returned (.tuple #[z, .bool R.isSome]) ∧ (∀ ys, R = some ys → Iss 0 w' z ys) ∧ Below w.heap.size w w' := by
  subst h
  exact less_any b xs v0 v1 v2 v3 v w ht hs hr hb (fun k x hk => hx x (List.mem_of_getElem? hk))
set_option maxHeartbeats 2000000 in
set_option maxRecDepth 100000 in
theorem liveOf_any {lo : Nat} (fs : List Ft) (v : Value) (k : Nat) (w : World) (ht : Tab w) (hs : Ifs lo w v fs) (hv : fvalid fs = true) (hk : k < fs.length) :
    Calls Tryd.prog 94 #[v, .int .i64 (k : Int)] w fun e w' => ∃ z, e = .returned (.tuple #[z, .bool (livek fs k).isSome]) ∧ (∀ ys, livek fs k = some ys → Iss 0 w' z ys) ∧ Below w.heap.size w w' := by
  obtain ⟨a, cap, rfl, hlc, hcm⟩ := hs.form
  unfold maxLen at hcm
  generalize hn : fs.length = n at *
  have HN := Lib.hid hn
  obtain ⟨f, hx⟩ : ∃ f, fs[k]? = some f := ⟨_, List.getElem?_eq_getElem (by omega)⟩
  obtain ⟨b, o, v0, v1, v2, v3, rfl, hbl, c0, c1, c2, c3, c4, hss⟩ := hs.at hx
  have i1 : (k : Int) < (n : Int) := by omega
  have i2 : (0 : Int) ≤ (k : Int) := by omega
  have i3 : (k : Int) ≤ (cap : Int) := by omega
  have HS := Lib.hid hs
  have HT := Lib.hid (Ifs.takeS hs (Nat.le_of_lt hk))
  have HSS := Lib.hid hss
  have HX := Lib.hid hx
  have HV := Lib.hid hv
  obtain ⟨R, hR⟩ : ∃ R, livek fs k = R := ⟨_, rfl⟩
  have HR := Lib.hid (show blessB f.box (fboxes (fs.take k)) = R by rw [← hR]; unfold livek; rw [hx])
  rw [hR]
  have HL := Lib.hid (show (fs.take k).length ≤ 1000000 by have := fvalid_60 hv; rw [List.length_take]; omega)
  clear hs hss hx hn hR
  go_enter Tryd.func94, Tryd.ntmps94
  go_wp2_with fail
  (refine wp_region_bel (W := w) [BIs (.slice (some ⟨b, o, none⟩) n cap), BIs (.int .i64 (k : Int)), BIs (.pointer (some ⟨b, o + k * 5, none⟩)), BIs (.pointer (some ⟨b, o + k * 5, none⟩)), BIs (.agg #[v0, v1, v2, v3]), BIs (.slice (some ⟨b, o, none⟩) n cap), BIs (.int .i64 (k : Int)), BIs (.slice (some ⟨b, o, none⟩) k cap), (fun w v => Iss 0 w v (fboxes (fs.take k))), (fun w v => ∃ z, v = .tuple #[z, .bool R.isSome] ∧ ∀ ys, R = some ys → Iss 0 w z ys), (fun w z => ∀ ys, R = some ys → Iss 0 w z ys), BIs (.bool R.isSome), (fun w z => ∀ ys, R = some ys → Iss 0 w z ys), BIs (.bool R.isSome)] (by kernel_rfl) (fun u => by simp only [frU, Act.put, List.setIfInBounds_toArray, List.set_cons_succ, List.set_cons_zero, Nat.zero_add, Nat.reduceAdd]; exact rfl) (by kernel_rfl) ⟨bst_is _, bst_is _, bst_is _, bst_is _, bst_is _, bst_is _, bst_is _, bst_is _, (fun _ _ _ hb h => h.below hb), (fun _ _ _ hb ⟨z, h1, h2⟩ => ⟨z, h1, fun ys hy => (h2 ys hy).below hb⟩), (fun _ _ _ hb h ys hy => (h ys hy).below hb), bst_is _, (fun _ _ _ hb h ys hy => (h ys hy).below hb), bst_is _, trivial⟩ ?_ ?_; exact ⟨stB rfl (fun u w3 hC hd Q K hK => by (go_step; exact hK _ _ rfl (Below.refl _ _) rfl)), stB rfl (fun u w3 hC hd Q K hK => by (go_step; exact hK _ _ rfl (Below.refl _ _) rfl)), stB rfl (fun u w3 hC hd Q K hK => by (have hu := bis (w := w3) (hd 0 rfl); rw [hu] at hK ⊢; clear hu; have hu := bis (w := w3) (hd 1 rfl); rw [hu] at hK ⊢; clear hu; go_step; exact hK _ _ rfl (Below.refl _ _) rfl)), stB rfl (fun u w3 hC hd Q K hK => by (have hu := bis (w := w3) (hd 2 rfl); rw [hu] at hK ⊢; clear hu; go_step; exact hK _ _ rfl (Below.refl _ _) rfl)), stB rfl (fun u w3 hC hd Q K hK => by (have hu := bis (w := w3) (hd 3 rfl); rw [hu] at hK ⊢; clear hu; have z0 := (hC.cell (p := ⟨b, o + k * 5, none⟩) hbl).trans c0; have z1 := (hC.cell (p := ⟨b, o + k * 5 + 1, none⟩) hbl).trans c1; have z2 := (hC.cell (p := ⟨b, o + k * 5 + 2, none⟩) hbl).trans c2; have z3 := (hC.cell (p := ⟨b, o + k * 5 + 3, none⟩) hbl).trans c3; go_step; exact hK _ _ rfl (Below.refl _ _) rfl)), stB rfl (fun u w3 hC hd Q K hK => by (go_step; exact hK _ _ rfl (Below.refl _ _) rfl)), stB rfl (fun u w3 hC hd Q K hK => by (go_step; exact hK _ _ rfl (Below.refl _ _) rfl)), stB rfl (fun u w3 hC hd Q K hK => by (have hu := bis (w := w3) (hd 5 rfl); rw [hu] at hK ⊢; clear hu; have hu := bis (w := w3) (hd 6 rfl); rw [hu] at hK ⊢; clear hu; go_step; exact hK _ _ rfl (Below.refl _ _) rfl)), stB rfl (fun u w3 hC hd Q K hK => by (have hu := bis (w := w3) (hd 7 rfl); rw [hu] at hK ⊢; clear hu; go_step; refine (wheres_any (fs.take k) _ _ (HT.out.below hC) HL.out).mono ?_; rintro e w4 ⟨z4, rfl, ho4, hb4⟩; exact hK _ _ rfl hb4 ho4)), stB rfl (fun u w3 hC hd Q K hK => by (have hu := bis (w := w3) (hd 4 rfl); rw [hu] at hK ⊢; clear hu; have ho1 := hd 8 rfl; generalize u 8 = v1 at *; go_step; refine (less_r HR.out (ht.below hC) (HSS.out.mono (fun _ _ g => g.below hC)) ho1 (fvalid_at HV.out HX.out) (fboxes_valid (fvalid_take HV.out k))).mono ?_; rintro e w4 ⟨z4, rfl, ho4, hb4⟩; exact hK _ _ rfl hb4 ⟨z4, rfl, ho4⟩)), stB rfl (fun u w3 hC hd Q K hK => by (obtain ⟨z, hu, hz⟩ := hd 9 rfl; rw [hu] at hK ⊢; clear hu; go_step; exact hK _ _ rfl (Below.refl _ _) hz)), stB rfl (fun u w3 hC hd Q K hK => by (obtain ⟨z, hu, hz⟩ := hd 9 rfl; rw [hu] at hK ⊢; clear hu; go_step; exact hK _ _ rfl (Below.refl _ _) rfl)), stB rfl (fun u w3 hC hd Q K hK => by (have h2 := hd 10 rfl; generalize u 10 = v2 at *; go_step; exact hK _ _ rfl (Below.refl _ _) h2)), stB rfl (fun u w3 hC hd Q K hK => by (have hu := bis (w := w3) (hd 11 rfl); rw [hu] at hK ⊢; clear hu; go_step; exact hK _ _ rfl (Below.refl _ _) rfl)), trivial⟩); intro u w9 hb_w9 hF; rw [bis (w := w9) (hF 0 (by decide))]; rw [bis (w := w9) (hF 1 (by decide))]; rw [bis (w := w9) (hF 2 (by decide))]; rw [bis (w := w9) (hF 3 (by decide))]; rw [bis (w := w9) (hF 4 (by decide))]; rw [bis (w := w9) (hF 5 (by decide))]; rw [bis (w := w9) (hF 6 (by decide))]; rw [bis (w := w9) (hF 7 (by decide))]; generalize u 8 = vx8 at *; generalize u 9 = vx9 at *; generalize u 10 = vx10 at *; rw [bis (w := w9) (hF 11 (by decide))]; have hz8 := hF 12 (by decide); generalize u 12 = z8 at *; rw [bis (w := w9) (hF 13 (by decide))]; clear hF
  have HZ := Lib.hid hz8
  go_wp2
  go_ret2
  exact ⟨_, rfl, HZ.out, hb_w9⟩
set_option maxHeartbeats 2000000 in
set_option maxRecDepth 100000 in
theorem implLivePart_e {lo : Nat} {fs : List Ft} {R : List Bx} {v : Value} {n : Int} {q : Bool} {w : World} (hs : Fts lo w v fs) (ht : Tab w) (h : livef fs n = R) (hq : (livep fs n).isSome = q) :
    Calls Tryd.prog 39 #[v, .int .i64 n] w fun e w' => ∃ v', e = .returned (.tuple #[v', .bool q]) ∧ GBs w' w.heap.size w'.heap.size v' R ∧ Below w.heap.size w w' := by
  have HR := Lib.hid h
  have HQ := Lib.hid hq
  obtain ⟨a, cap, rfl, hlc, hcm⟩ := hs.form
  unfold maxLen at hcm
  clear h hq
  obtain ⟨fv, hv⟩ : ∃ fv, fvalid fs = fv := ⟨_, rfl⟩
  by_cases hok : fv = true ∧ 0 ≤ n ∧ n < (fs.length : Int)
  · obtain ⟨rfl, hn0, hn1⟩ := hok
    obtain ⟨k, rfl⟩ := Int.eq_ofNat_of_zero_le hn0
    have hk : k < fs.length := by omega
    have HV := Lib.hid hv
    have HE := Lib.hid (livep_yes hv hk)
    have HS := Lib.hid hs
    have h4 := fvalid_four hv
    have hl := fvalid_len hv
    generalize hn : fs.length = m at *
    have HN := Lib.hid hn
    clear hn
    have i1 : ¬ ((k : Int) < 0) := by omega
    have i2 : ¬ ((m : Int) ≤ (k : Int)) := by omega
    go_enter Tryd.func39, Tryd.ntmps39
    go_wp2_with fail
    refine (implFV_b HS.out ht hv).mono ?_
    rintro e w1 ⟨rfl, hb1⟩
    have hz1 := hb1.size
    go_wp2_with fail
    refine (flatsOf_any fs _ _ (HS.out.below hb1) h4 (by rw [HN.out]; exact hl)).mono ?_
    rintro e w2 ⟨v2, rfl, ho2, hb2⟩
    have hw2 := hb1.trans (hb2.mono hz1)
    have HO2 := Lib.hid ho2
    clear hb2 ho2 h4
    go_wp2_with fail
    refine (liveOf_any fs v2 k w2 (ht.below hw2) HO2.out HV.out (by rw [HN.out]; exact hk)).mono ?_
    rintro e w3 ⟨z3, rfl, hz3, hb3⟩
    have hw3 := hw2.trans (hb3.mono hw2.size)
    clear hb3
    obtain ⟨O, hO⟩ : ∃ O, livek fs k = O := ⟨_, rfl⟩
    rw [hO] at hz3 ⊢
    have HOO := Lib.hid hO
    cases O with
    | none =>
      have HR2 := Lib.hid (show R = [] ∧ q = false by
        refine ⟨?_, ?_⟩
        · rw [← HR.out]; unfold livef; rw [HE.out, HOO.out]; rfl
        · rw [← HQ.out, HE.out, HOO.out]; rfl)
      clear hz3 hO
      go_wp2
      go_ret2
      refine ⟨_, by rw [HR2.out.2]; rfl, ?_, hw3⟩
      rw [HR2.out.1]
      exact GBs.nil _ hw3.size
    | some ys =>
      have HR2 := Lib.hid (show R = ys ∧ q = true by
        refine ⟨?_, ?_⟩
        · rw [← HR.out]; unfold livef; rw [HE.out, HOO.out]; rfl
        · rw [← HQ.out, HE.out, HOO.out]; rfl)
      have hi3 := hz3 ys rfl
      obtain ⟨y1, y2⟩ := rvalid_all (livek_valid HV.out HOO.out)
      have HY := Lib.hid y2
      have HI := Lib.hid hi3
      clear hz3 hO hi3 y2
      go_wp2_with fail
      refine (boxesOf_own ys z3 w3 HI.out (by omega) (fun j b hb i xs hx => by have := bvalid_lens (HY.out b (List.mem_of_getElem? hb)) i xs hx; omega)).mono ?_
      rintro e w4 ⟨v4, rfl, ho4, hb4⟩
      have hw4 := hw3.trans (hb4.mono hw3.size)
      have HO4 := Lib.hid (OwnG.low ho4 hw3.size)
      clear ho4 hb4
      go_wp2
      go_ret2
      refine ⟨_, by rw [HR2.out.2]; rfl, ?_, hw4⟩
      rw [HR2.out.1]
      exact HO4.out
  · have HR2 := Lib.hid (show R = [] ∧ q = false by
      have : livep fs n = none := livep_no (by
        cases fv
        · exact .inl hv
        · by_cases h0 : n < 0
          · exact .inr (.inl h0)
          · refine .inr (.inr ?_)
            by_cases h1 : n < (fs.length : Int)
            · exact absurd ⟨rfl, by omega, h1⟩ hok
            · omega)
      refine ⟨?_, ?_⟩
      · rw [← HR.out]; unfold livef; rw [this]; rfl
      · rw [← HQ.out, this]; rfl)
    cases fv
    · go_enter Tryd.func39, Tryd.ntmps39
      go_wp2_with fail
      refine (implFV_b hs ht hv).mono ?_
      rintro e w1 ⟨rfl, hb1⟩
      go_wp2
      go_ret2
      refine ⟨_, by rw [HR2.out.2]; rfl, ?_, hb1⟩
      rw [HR2.out.1]
      exact GBs.nil _ hb1.size
    · have hn : n < 0 ∨ (fs.length : Int) ≤ n := by
        by_cases h0 : n < 0
        · exact .inl h0
        · right
          by_cases h1 : n < (fs.length : Int)
          · exact absurd ⟨rfl, by omega, h1⟩ hok
          · omega
      generalize fs.length = m at *
      clear hok
      rcases hn with hn | hn
      · go_enter Tryd.func39, Tryd.ntmps39
        go_wp2_with fail
        refine (implFV_b hs ht hv).mono ?_
        rintro e w1 ⟨rfl, hb1⟩
        go_wp2
        go_ret2
        refine ⟨_, by rw [HR2.out.2]; rfl, ?_, hb1⟩
        rw [HR2.out.1]
        exact GBs.nil _ hb1.size
      · have hn0 : ¬ n < 0 := by omega
        go_enter Tryd.func39, Tryd.ntmps39
        go_wp2_with fail
        refine (implFV_b hs ht hv).mono ?_
        rintro e w1 ⟨rfl, hb1⟩
        go_wp2
        go_ret2
        refine ⟨_, by rw [HR2.out.2]; rfl, ?_, hb1⟩
        rw [HR2.out.1]
        exact GBs.nil _ hb1.size
end Go.Proofs.YtgmonbhdgnamnaaDoor
