/- The program's RegionValid and RegionHas. -/
import Derived.Test.YtajcogpfmpehkaaGreatDoorDxAJ
import Derived.Test.YtajcogpfmpehkaaGreatDoorLvS
namespace Go.Proofs.YtajcogpfmpehkaaGreatDoor
open Go.RowKit
theorem Box4.bel {w w' : World} {b : Nat} {v0 v1 v2 v3 : Int} (h : Box4 w b v0 v1 v2 v3) (hb : Below w.heap.size w w') : Box4 w' b v0 v1 v2 v3 := h.mv (R := b + 1) (Mv.of_below hb) h.lt (by omega)
set_option maxHeartbeats 2000000 in
theorem implRV_any {lo : Nat} (bs : List Bx) (v : Value) (w : World) (hs : Bxs lo w v bs) (ht : Tab w) :
    Calls Tryz.prog 37 #[v] w fun e w' => e = .returned (.bool (rvalid bs)) ∧ Below w.heap.size w w' := by
  obtain ⟨a, cap, rfl, hlc, hcm⟩ := hs.form
  unfold maxLen at hcm
  generalize hn : bs.length = n at *
  have HN := Lib.hid hn
  by_cases h400 : 400 < n
  · have HE := Lib.hid (show rvalid bs = false by unfold rvalid; rw [HN.out, decide_eq_false (by omega)]; rfl)
    go_enter Tryz.func37, Tryz.ntmps37
    go_wp2
    go_ret
    exact ⟨ret_bool HE.out.symm, by (repeat' (first | with_reducible exact Below.refl _ _ | with_reducible assumption | with_reducible refine Below.setCell ?_ ?_ _ | with_reducible refine Below.alloc ?_ ?_ _ | with_reducible refine Below.drew ?_ | with_reducible refine belDrewN ?_ _ | with_reducible refine Below.trans ?_ (Below.mono (by assumption) ?_) | omega | (simp; omega) | (simp; done)))⟩
  · have h400' : n ≤ 400 := by omega
    clear hn
    go_enter Tryz.func37, Tryz.ntmps37
    go_wp2_with fail
    go_loopw [10] (fun i wr => ∃ k : Nat, k ≤ n ∧ i = .int .i64 k ∧ Hid (ROk bs k) ∧ Below w.heap.size w wr) (fun i _ => n - (intOf i).toNat)
    case atStart => exact ⟨0, by omega, rfl, Lib.hid (fun i b h => by omega), Below.refl _ _⟩
    case round =>
      obtain ⟨k, hk, rfl, HG, hbr⟩ := hrel
      have hzr := hbr.size
      have hs2 := hs.below hbr
      have ht2 := ht.below hbr
      by_cases hlt : k < n
      · have i1 : (k : Int) < (n : Int) := by omega
        have i2 : (0 : Int) ≤ (k : Int) := by omega
        obtain ⟨f, hx⟩ : ∃ f, bs[k]? = some f := ⟨_, List.getElem?_eq_getElem (by rw [HN.out]; exact hlt)⟩
        obtain ⟨b', o, sv, rfl, hbl, c0, hsv⟩ := hs2.at hx
        have HX := Lib.hid hx
        obtain ⟨sa', scap, rfl, -, -⟩ := hsv.form
        have HSV := Lib.hid hsv
        clear hx hsv
        generalize hbx : f.length = bl at *
        clear hbx
        obtain ⟨r, hv⟩ : ∃ r, bvalid f = r := ⟨_, rfl⟩
        go_wp2_with fail
        refine (implBV_b (HSV.out.below (by (repeat' (first | with_reducible exact Below.refl _ _ | with_reducible assumption | with_reducible refine Below.setCell ?_ ?_ _ | with_reducible refine Below.alloc ?_ ?_ _ | with_reducible refine Below.drew ?_ | with_reducible refine belDrewN ?_ _ | with_reducible refine Below.trans ?_ (Below.mono (by assumption) ?_) | omega | (simp; omega) | (simp; done))))) (ht2.below (by (repeat' (first | with_reducible exact Below.refl _ _ | with_reducible assumption | with_reducible refine Below.setCell ?_ ?_ _ | with_reducible refine Below.alloc ?_ ?_ _ | with_reducible refine Below.drew ?_ | with_reducible refine belDrewN ?_ _ | with_reducible refine Below.trans ?_ (Below.mono (by assumption) ?_) | omega | (simp; omega) | (simp; done))))) hv).mono ?_
        rintro e w9 ⟨rfl, hb9⟩
        have hb10 : Below w.heap.size w w9 := by (repeat' (first | with_reducible exact Below.refl _ _ | with_reducible assumption | with_reducible refine Below.setCell ?_ ?_ _ | with_reducible refine Below.alloc ?_ ?_ _ | with_reducible refine Below.drew ?_ | with_reducible refine belDrewN ?_ _ | with_reducible refine Below.trans ?_ (Below.mono (by assumption) ?_) | omega | (simp; omega) | (simp; done)))
        clear hb9
        cases r
        · have HE := Lib.hid (rvalid_no HX.out hv)
          go_wp2
          go_ret
          exact ⟨ret_bool HE.out.symm, hb10⟩
        · have HE := Lib.hid (HG.out.step HX.out hv)
          go_wp2
          go_roundw
          case rel => exact ⟨k + 1, by omega, by go_num, HE, hb10⟩
          case measure => simp [intOf]; omega
      · have hkn : k = n := by omega
        have HE := Lib.hid (show rvalid bs = true by
          have hG := HG.out
          rw [hkn, ← HN.out] at hG
          rw [rvalid_yes hG, HN.out, decide_eq_true h400'])
        go_wp2
        go_ret
        exact ⟨ret_bool HE.out.symm, hbr⟩
theorem implRV_b {lo : Nat} {bs : List Bx} {v : Value} {w : World} {r : Bool} (hs : Bxs lo w v bs) (ht : Tab w) (h : rvalid bs = r) :
    Calls Tryz.prog 37 #[v] w fun e w' => e = .returned (.bool r) ∧ Below w.heap.size w w' := by
  subst h
  exact implRV_any bs v w hs ht
set_option maxHeartbeats 4000000 in
set_option maxRecDepth 100000 in
theorem implRH_any {lo : Nat} (bs : List Bx) (v : Value) (p1 p2 p3 p4 : Int) (w : World) (hs : Bxs lo w v bs) (ht : Tab w) :
    Calls Tryz.prog 16 #[v, .agg #[.int .i64 p1, .int .i64 p2, .int .i64 p3, .int .i64 p4]] w fun e w' => e = .returned (.bool (rvalid bs && Pk.ok ⟨p1, p2, p3, p4⟩ && bs.any (fun z => bhas z ⟨p1, p2, p3, p4⟩))) ∧ Below w.heap.size w w' := by
  obtain ⟨a, cap, rfl, hlc, hcm⟩ := hs.form
  unfold maxLen at hcm
  generalize hn : bs.length = n at *
  have HN := Lib.hid hn
  clear hn
  obtain ⟨W, hW⟩ : ∃ W, w.alloc (.cells #[.int .i64 p1, .int .i64 p2, .int .i64 p3, .int .i64 p4] 35) = W := ⟨_, rfl⟩
  have hal : Below w.heap.size w W := by rw [← hW]; exact (Below.refl _ _).alloc (Nat.le_refl _) _
  have HP := Lib.hid (show Box4 W w.heap.size p1 p2 p3 p4 by rw [← hW]; exact Box4.new w p1 p2 p3 p4 _)
  have hsW := hs.below hal
  have htW := ht.below hal
  obtain ⟨c0, c1, c2, c3⟩ := And.intro HP.out.c0 (And.intro HP.out.c1 (And.intro HP.out.c2 HP.out.c3))
  have qs : w.heap.size < W.heap.size := HP.out.lt
  cases hv : rvalid bs
  · go_enter Tryz.func16, Tryz.ntmps16
    go_wp2_with fail
    refine (implRV_b hsW htW hv).mono ?_
    rintro e w1 ⟨rfl, hb1⟩
    go_wp2
    go_ret
    exact ⟨ret_bool (by simp), hal.trans (hb1.mono hal.size)⟩
  · go_enter Tryz.func16, Tryz.ntmps16
    go_wp2_with fail
    refine (implRV_b hsW htW hv).mono ?_
    rintro e w1 ⟨rfl, hb1⟩
    have hw1 := hal.trans (hb1.mono hal.size)
    have hz1 := hb1.size
    replace c0 := (hb1.cell (p := ⟨w.heap.size, 0, none⟩) qs).trans c0
    replace c1 := (hb1.cell (p := ⟨w.heap.size, 1, none⟩) qs).trans c1
    replace c2 := (hb1.cell (p := ⟨w.heap.size, 2, none⟩) qs).trans c2
    replace c3 := (hb1.cell (p := ⟨w.heap.size, 3, none⟩) qs).trans c3
    cases hp : Pk.ok ⟨p1, p2, p3, p4⟩
    · go_wp2_with fail
      refine (pv_b hp (htW.below hb1)).mono ?_
      rintro e w2 ⟨rfl, hb2⟩
      go_wp2
      go_ret
      exact ⟨ret_bool (by simp [hp]), hw1.trans (hb2.mono hw1.size)⟩
    · go_wp2_with fail
      refine (pv_b hp (htW.below hb1)).mono ?_
      rintro e w2 ⟨rfl, hb2⟩
      have hb12 := hb1.trans (hb2.mono hz1)
      have hw2 := hw1.trans (hb2.mono hw1.size)
      have HV := Lib.hid hv
      have HPO := Lib.hid hp
      have HS := Lib.hid (hsW.below hb12)
      have HQ := Lib.hid (Box4.bel HP.out hb12)
      clear c0 c1 c2 c3 hb1 hb2 hb12 hW hal hsW htW qs hw1 hz1 hv hp HP
      go_wp2_with fail
      go_loopw [17] (fun i wr => ∃ k : Nat, k ≤ n ∧ i = .int .i64 k ∧ Hid ((bs.take k).any (fun z => bhas z ⟨p1, p2, p3, p4⟩) = false) ∧ Below w2.heap.size w2 wr) (fun i _ => n - (intOf i).toNat)
      case atStart => exact ⟨0, by omega, rfl, Lib.hid rfl, Below.refl _ _⟩
      case round =>
        obtain ⟨k, hk, rfl, HG, hbr⟩ := hrel
        have hzr := hbr.size
        have hs2 := HS.out.below hbr
        have hwr := hw2.trans (hbr.mono hw2.size)
        have HQ2 := Lib.hid (Box4.bel HQ.out hbr)
        by_cases hlt : k < n
        · have i1 : (k : Int) < (n : Int) := by omega
          have i2 : (0 : Int) ≤ (k : Int) := by omega
          obtain ⟨f, hx⟩ : ∃ f, bs[k]? = some f := ⟨_, List.getElem?_eq_getElem (by rw [HN.out]; exact hlt)⟩
          obtain ⟨b', o, sv, rfl, hbl, e0, hsv⟩ := hs2.at hx
          have HX := Lib.hid hx
          have hfv := (rvalid_all HV.out).2 f (List.mem_of_getElem? hx)
          have hf4 := (bvalid_four hfv).1
          obtain ⟨sa', scap, rfl, -, -⟩ := hsv.form
          rw [hf4] at e0 hsv
          obtain ⟨c0, c1, c2, c3⟩ := And.intro HQ2.out.c0 (And.intro HQ2.out.c1 (And.intro HQ2.out.c2 HQ2.out.c3))
          have qs := HQ2.out.lt
          have HF4 := Lib.hid hf4
          obtain ⟨W3, hW3⟩ : ∃ W3, wr.alloc (.cells #[.slice sa' 4 scap] 68) = W3 := ⟨_, rfl⟩
          have hal3 : Below wr.heap.size wr W3 := by rw [← hW3]; exact (Below.refl _ _).alloc (Nat.le_refl _) _
          have b0 : W3.cell? ⟨wr.heap.size, 0, none⟩ = some (.slice sa' 4 scap) := by rw [← hW3]; simp
          have qb : wr.heap.size < W3.heap.size := by rw [← hW3]; simp
          have qp : w.heap.size < W3.heap.size := by omega
          have r0 := (hal3.cell (p := ⟨w.heap.size, 0, none⟩) qs).trans c0
          have r1 := (hal3.cell (p := ⟨w.heap.size, 1, none⟩) qs).trans c1
          have r2 := (hal3.cell (p := ⟨w.heap.size, 2, none⟩) qs).trans c2
          have r3 := (hal3.cell (p := ⟨w.heap.size, 3, none⟩) qs).trans c3
          have HSV := Lib.hid (hsv.below hal3)
          have hw3 := hwr.trans (hal3.mono hwr.size)
          have hb3 := hbr.trans (hal3.mono hzr)
          obtain ⟨r, hr⟩ : ∃ r, bhas f ⟨p1, p2, p3, p4⟩ = r := ⟨_, rfl⟩
          have HR := Lib.hid hr
          clear hx hsv hfv hf4 hr c0 c1 c2 c3
          go_wp2_with fail
          (refine wp_region_bel (W := W3) [BIs (.agg #[.slice sa' 4 scap]), (fun w u => ∃ v0 v1 v2 v3, u = .agg #[v0, v1, v2, v3] ∧ All2 (Sps lo w) [v0, v1, v2, v3] f), BIs (.agg #[.int .i64 p1, .int .i64 p2, .int .i64 p3, .int .i64 p4]), (BIs (.bool r))] (by kernel_rfl) (fun u => by simp only [frU, Act.put, List.setIfInBounds_toArray, List.set_cons_succ, List.set_cons_zero, Nat.zero_add, Nat.reduceAdd]; exact rfl) (by kernel_rfl) ⟨bst_is _, (fun _ _ _ hb h => (let ⟨v0, v1, v2, v3, h1, h2⟩ := h; ⟨v0, v1, v2, v3, h1, h2.mono (fun _ _ h => h.below hb)⟩)), bst_is _, (bst_is _), trivial⟩ ?_ ?_; exact ⟨stB rfl (fun u w3 hC hd Q K hK => by (have e0 := (hC.cell (p := ⟨wr.heap.size, 0, none⟩) qb).trans b0; go_step; exact hK _ _ rfl (Below.refl _ _) rfl)), stB rfl (fun u w3 hC hd Q K hK => by (have hu := bis (w := w3) (hd 0 rfl); rw [hu] at hK ⊢; clear hu; go_step; refine (sidesOf_any f _ _ _ (HSV.out.below hC) (Below.refl _ _) HF4.out).mono ?_; rintro e w4 ⟨a0, n0, p0, a1, n1, q1, a2, n2, q2, a3, n3, q3, rfl, hall, hb4⟩; exact hK _ _ rfl hb4 ⟨_, _, _, _, rfl, hall.mono (fun _ _ h => h.below hb4)⟩)), stB rfl (fun u w3 hC hd Q K hK => by (have e0 := (hC.cell (p := ⟨w.heap.size, 0, none⟩) qp).trans r0; have e1 := (hC.cell (p := ⟨w.heap.size, 1, none⟩) qp).trans r1; have e2 := (hC.cell (p := ⟨w.heap.size, 2, none⟩) qp).trans r2; have e3 := (hC.cell (p := ⟨w.heap.size, 3, none⟩) qp).trans r3; go_step; exact hK _ _ rfl (Below.refl _ _) rfl)), stB rfl (fun u w3 hC hd Q K hK => by (obtain ⟨v0, v1, v2, v3, hu, hall⟩ := hd 1 rfl; rw [hu] at hK ⊢; clear hu; have hu := bis (w := w3) (hd 2 rfl); rw [hu] at hK ⊢; clear hu; go_step; refine (has_b hall HR.out).mono ?_; rintro e w4 ⟨rfl, hb4⟩; exact hK _ _ rfl hb4 rfl)), trivial⟩); intro u w9 hb_w9 hF; rw [bis (w := w9) (hF 0 (by decide))]; generalize u 1 = vx1 at *; rw [bis (w := w9) (hF 2 (by decide))]; have h8 := hF 3 (by decide); generalize u 3 = v8 at *; clear hF
          replace h8 : v8 = .bool r := h8
          subst h8
          have hw9 := hw3.trans (hb_w9.mono hw3.size)
          have hb9 := hb3.trans (hb_w9.mono hb3.size)
          have HT := Lib.hid (show (bs.take (k + 1)).any (fun z => bhas z ⟨p1, p2, p3, p4⟩) = r by rw [List.take_add_one, HX.out, Option.toList_some, List.any_append, HG.out, List.any_cons, HR.out]; simp)
          cases r
          · go_wp2
            go_roundw
            case rel => exact ⟨k + 1, by omega, by go_num, HT, hb9⟩
            case measure => simp [intOf]; omega
          · have HE := Lib.hid (show bs.any (fun z => bhas z ⟨p1, p2, p3, p4⟩) = true by
              obtain ⟨z, hz, hb⟩ := List.any_eq_true.1 HT.out
              exact List.any_eq_true.2 ⟨z, List.mem_of_mem_take hz, hb⟩)
            go_wp2
            go_ret
            exact ⟨ret_bool (by simp [HE.out, HPO.out]), hw9⟩
        · have hkn : k = n := by omega
          have HE := Lib.hid (show bs.any (fun z => bhas z ⟨p1, p2, p3, p4⟩) = false by
            have := HG.out
            rwa [List.take_of_length_le (by rw [HN.out]; omega)] at this)
          go_wp2
          go_ret
          exact ⟨ret_bool (by simp [HE.out, HPO.out]), hwr⟩
theorem implRH_b {lo : Nat} {bs : List Bx} {v : Value} {p1 p2 p3 p4 : Int} {w : World} {r : Bool} (hs : Bxs lo w v bs) (ht : Tab w) (h : (rvalid bs && Pk.ok ⟨p1, p2, p3, p4⟩ && bs.any (fun z => bhas z ⟨p1, p2, p3, p4⟩)) = r) :
    Calls Tryz.prog 16 #[v, .agg #[.int .i64 p1, .int .i64 p2, .int .i64 p3, .int .i64 p4]] w fun e w' => e = .returned (.bool r) ∧ Below w.heap.size w w' := by
  subst h
  exact implRH_any bs v p1 p2 p3 p4 w hs ht
end Go.Proofs.YtajcogpfmpehkaaGreatDoor
