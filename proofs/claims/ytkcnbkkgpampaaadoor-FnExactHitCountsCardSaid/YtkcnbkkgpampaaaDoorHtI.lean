/- HitCounts: the program's walk. -/
import Derived.Test.YtkcnbkkgpampaaaDoorHtH
import Derived.Test.YtkcnbkkgpampaaaDoorFmK
namespace Go.Proofs.YtkcnbkkgpampaaaDoor
open Go.RowKit
set_option maxHeartbeats 1000000 in
theorem packetsValid_b {ps : List Pk} {u : Value} {w : World} {r : Bool} (hp : Pks w u ps) (ht : Tab w) (h : pvalid ps = r) :
    Calls Tryd.prog 88 #[u] w fun e w' => e = .returned (.bool r) ∧ Below w.heap.size w w' := by
  obtain ⟨a', cap', rfl, hlc', hcm', -⟩ := id hp
  unfold maxLen at hcm'
  have HR := Lib.hid h
  have HP := Lib.hid hp
  have HT := Lib.hid ht
  clear h hp ht
  generalize hm : ps.length = m at *
  have HM := Lib.hid hm
  clear hm
  by_cases h50 : 50 < m
  · have h50i : (50 : Int) < (m : Int) := by omega
    have HE := Lib.hid ((pvalid_big (ps := ps) (by rw [HM.out]; exact h50)).symm.trans HR.out)
    go_enter Tryd.func88, Tryd.ntmps88
    go_wp2
    go_ret
    exact ⟨ret_bool HE.out, by (repeat' (first | with_reducible exact Below.refl _ _ | with_reducible assumption | with_reducible refine Below.setCell ?_ ?_ _ | with_reducible refine Below.alloc ?_ ?_ _ | with_reducible refine Below.drew ?_ | with_reducible refine belDrewN ?_ _ | with_reducible refine Below.trans ?_ (Below.mono (by assumption) ?_) | omega | (simp; omega) | (simp; done)))⟩
  · have h50i : ¬ (50 : Int) < (m : Int) := by omega
    have h50d : decide ((50 : Int) < (m : Int)) = false := decide_eq_false h50i
    go_enter Tryd.func88, Tryd.ntmps88
    go_wp2_with fail
    go_loopw [2, 4, 10] (fun _ _ i wr => ∃ k : Nat, k ≤ m ∧ i = .int .i64 k ∧ Hid (∀ (j : Nat) p, j < k → ps[j]? = some p → Pk.ok p = true) ∧ Below w.heap.size w wr) (fun _ _ i _ => m - (intOf i).toNat)
    case atStart => exact ⟨0, by omega, rfl, Lib.hid (fun j p hj => by omega), Below.refl _ _⟩
    case round =>
      obtain ⟨k, hk, rfl, HK, hbr⟩ := hrel
      have hzr := hbr.size
      by_cases hlt : k < m
      · have i1 : (k : Int) < (m : Int) := by omega
        have i2 : (0 : Int) ≤ (k : Int) := by omega
        obtain ⟨b, o, p1, p2, p3, p4, rfl, hbl, hx, c0, c1, c2, c3⟩ := (HP.out.below hbr).at (show k < ps.length by rw [HM.out]; exact hlt)
        have HX := Lib.hid hx
        clear hx
        cases hok : Pk.ok ⟨p1, p2, p3, p4⟩
        · have HE := Lib.hid ((pvalid_no HX.out hok).symm.trans HR.out)
          go_wp2_with fail
          refine (pv_b hok ((HT.out.below hbr).below (by (repeat' (first | with_reducible exact Below.refl _ _ | with_reducible assumption | with_reducible refine Below.setCell ?_ ?_ _ | with_reducible refine Below.alloc ?_ ?_ _ | with_reducible refine Below.drew ?_ | with_reducible refine belDrewN ?_ _ | with_reducible refine Below.trans ?_ (Below.mono (by assumption) ?_) | omega | (simp; omega) | (simp; done)))))).mono ?_
          rintro e w3 ⟨rfl, hb3⟩
          have hw3 : Below w.heap.size w w3 := by (repeat' (first | with_reducible exact Below.refl _ _ | with_reducible assumption | with_reducible refine Below.setCell ?_ ?_ _ | with_reducible refine Below.alloc ?_ ?_ _ | with_reducible refine Below.drew ?_ | with_reducible refine belDrewN ?_ _ | with_reducible refine Below.trans ?_ (Below.mono (by assumption) ?_) | omega | (simp; omega) | (simp; done)))
          clear hb3
          go_wp2
          go_ret
          exact ⟨ret_bool HE.out, hw3⟩
        · have HK2 := Lib.hid (show ∀ (j : Nat) p, j < k + 1 → ps[j]? = some p → Pk.ok p = true from fun j p hj hp => by
            by_cases e : j = k
            · subst e; have := HX.out; rw [hp] at this; cases this; exact hok
            · exact HK.out j p (by omega) hp)
          go_wp2_with fail
          refine (pv_b hok ((HT.out.below hbr).below (by (repeat' (first | with_reducible exact Below.refl _ _ | with_reducible assumption | with_reducible refine Below.setCell ?_ ?_ _ | with_reducible refine Below.alloc ?_ ?_ _ | with_reducible refine Below.drew ?_ | with_reducible refine belDrewN ?_ _ | with_reducible refine Below.trans ?_ (Below.mono (by assumption) ?_) | omega | (simp; omega) | (simp; done)))))).mono ?_
          rintro e w3 ⟨rfl, hb3⟩
          have hw3 : Below w.heap.size w w3 := by (repeat' (first | with_reducible exact Below.refl _ _ | with_reducible assumption | with_reducible refine Below.setCell ?_ ?_ _ | with_reducible refine Below.alloc ?_ ?_ _ | with_reducible refine Below.drew ?_ | with_reducible refine belDrewN ?_ _ | with_reducible refine Below.trans ?_ (Below.mono (by assumption) ?_) | omega | (simp; omega) | (simp; done)))
          clear hb3
          go_wp2
          go_roundw
          case rel => exact ⟨k + 1, by omega, by go_num, HK2, hw3⟩
          case measure => simp [intOf]; omega
      · have hkm : k = m := by omega
        subst hkm
        have HE := Lib.hid ((pvalid_yes (ps := ps) (by rw [HM.out]; omega) (fun j p hp => HK.out j p (by rw [← HM.out]; exact (List.getElem?_eq_some_iff.1 hp).1) hp)).symm.trans HR.out)
        go_wp2
        go_ret
        exact ⟨ret_bool HE.out, hbr⟩
set_option maxHeartbeats 2000000 in
set_option maxRecDepth 100000 in
theorem implHitCounts_e {lo : Nat} {fs : List Ft} {ps : List Pk} {R : List Int} {v u : Value} {w : World} (hs : Fts lo w v fs) (hp : Pks w u ps) (ht : Tab w) (h : hcount fs ps = R) :
    Calls Tryd.prog 42 #[v, u] w fun e w' => ∃ v', e = .returned v' ∧ OwnIn w.heap.size w' v' R ∧ Below w.heap.size w w' := by
  obtain ⟨ua, uc, rfl, hul, hum, -⟩ := id hp
  unfold maxLen at hum
  obtain ⟨m, hm⟩ : ∃ m, ps.length = m := ⟨_, rfl⟩
  rw [hm] at hul ⊢
  have HM := Lib.hid hm
  rw [hm] at hp
  have HR := Lib.hid h
  have HS := Lib.hid hs
  have HP := Lib.hid hp
  have HT := Lib.hid ht
  clear h hs hp ht hm
  cases hv : fvalid fs
  · have HE := Lib.hid ((hcount_nofs (ps := ps) hv).symm.trans HR.out)
    go_enter Tryd.func42, Tryd.ntmps42
    go_wp2_with fail
    refine (implFV_b HS.out HT.out hv).mono ?_
    rintro e w1 ⟨rfl, hb1⟩
    go_wp2
    go_ret
    exact ⟨_, rfl, by rw [← HE.out]; exact OwnSl.nil _ _ _ _ _, hb1⟩
  · have HV := Lib.hid hv
    cases hpv : pvalid ps
    · have HE := Lib.hid ((hcount_nops (fs := fs) hpv).symm.trans HR.out)
      go_enter Tryd.func42, Tryd.ntmps42
      go_wp2_with fail
      refine (implFV_b HS.out HT.out hv).mono ?_
      rintro e w1 ⟨rfl, hb1⟩
      have hp1 := HP.out.below hb1
      have ht1 := HT.out.below hb1
      go_wp2_with fail
      refine (packetsValid_b hp1 ht1 hpv).mono ?_
      rintro e w2 ⟨rfl, hb2⟩
      have hw2 := hb1.trans (hb2.mono hb1.size)
      go_wp2
      go_ret
      exact ⟨_, rfl, by rw [← HE.out]; exact OwnSl.nil _ _ _ _ _, hw2⟩
    · have HPV := Lib.hid hpv
      obtain ⟨n, hn⟩ : ∃ n, fs.length = n := ⟨_, rfl⟩
      have hn60 : n ≤ 60 := by rw [← hn]; exact fvalid_60 hv
      have HN := Lib.hid hn
      clear hn
      go_enter Tryd.func42, Tryd.ntmps42
      go_wp2_with fail
      refine (implFV_b HS.out HT.out hv).mono ?_
      rintro e w1 ⟨rfl, hb1⟩
      have hp1 := HP.out.below hb1
      have ht1 := HT.out.below hb1
      go_wp2_with fail
      refine (packetsValid_b hp1 ht1 hpv).mono ?_
      rintro e w2 ⟨rfl, hb2⟩
      have hw2 := hb1.trans (hb2.mono hb1.size)
      have hs2 := HS.out.below hw2
      clear hb1 hb2 hp1 ht1
      go_wp2_with fail
      refine (flatsOf_any fs v _ hs2 (fvalid_four HV.out) (fvalid_len HV.out)).mono ?_
      rintro e w3 ⟨v3, rfl, ho3, hb3⟩
      have hw3 := hw2.trans (hb3.mono hw2.size)
      obtain ⟨a, cap, rfl, hlc, hcm⟩ := ho3.form
      rw [HN.out] at ho3 hlc ⊢
      have HO3 := Lib.hid ho3
      have HW3 := Lib.hid hw3
      obtain ⟨i0, hi, hz0, hz1, hz2⟩ := info_parts infoInt
      clear ho3 hb3 hs2
      go_wp2_with (at_make; refine wpList_make_full _ rfl _ _ 61 rfl w3.heap.size 3 i0 _ 1 Tryd.underlying61 hi hz0 hz1 _ _ _ _ (n + 1) rfl rfl rfl rfl ?b1 ?b2 ?b3 ?_)
      case b1 => rw [hz2]; omega
      case b2 => simp only [maxLen]; omega
      case b3 => omega
      intro w4 hown4 hgrow4
      have hb4 : Below w3.heap.size w3 w4 := (Below.refl _ _).grown hgrow4 (Nat.le_refl _) (fun k hk => by cases hk)
      have HO4 := Lib.hid (show OwnIn w3.heap.size w4 (.slice (some ⟨w3.heap.size, 0, none⟩) (n + 1) (n + 1)) (hits fs ps 0) by
        unfold OwnIn OwnSl hits
        rw [HN.out, List.length_replicate, ← madeFlat (sz := 1) (enc := encI) (fun _ => rfl) (by omega) (.int .i64 0) (0 : Int) rfl, Nat.mul_one]
        exact hown4)
      have hz1w : w3.heap.size < w4.heap.size := by
        rcases OwnSl.form HO4.out with ⟨h, _⟩ | ⟨g, cp, h, _, h2, _⟩
        · cases h
        · obtain ⟨h3, _, _⟩ := Value.slice.inj h; cases h3; exact h2
      clear hown4 hgrow4
      go_wp2_with fail
      go_loopw [8, 9, 26] (fun _ _ i wr => ∃ k : Nat, k ≤ m ∧ i = .int .i64 k ∧ Hid (OwnIn w3.heap.size wr (.slice (some ⟨w3.heap.size, 0, none⟩) (n + 1) (n + 1)) (hits fs ps k)) ∧ Below w3.heap.size w3 wr) (fun _ _ i _ => m - (intOf i).toNat)
      case atStart => exact ⟨0, by omega, rfl, HO4, hb4⟩
      case round =>
        obtain ⟨k, hk, rfl, HO, hbr⟩ := hrel
        have hzr := hbr.size
        have hwr : Below w.heap.size w wr := HW3.out.trans (hbr.mono HW3.out.size)
        by_cases hlt : k < m
        · have i1 : (k : Int) < (m : Int) := by omega
          have i2 : (0 : Int) ≤ (k : Int) := by omega
          obtain ⟨b, o, p1, p2, p3, p4, rfl, hbl, hx, c0, c1, c2, c3⟩ := (HP.out.below hwr).at (show k < ps.length by rw [HM.out]; exact hlt)
          have HX := Lib.hid hx
          obtain ⟨r, hr⟩ : ∃ r, fwith fs ⟨p1, p2, p3, p4⟩ 0 = r := ⟨_, rfl⟩
          have HRR := Lib.hid hr
          have hrr := fwith_range fs ⟨p1, p2, p3, p4⟩ 0
          rw [hr, HN.out] at hrr
          obtain ⟨i, hii⟩ : ∃ i, hidx fs ⟨p1, p2, p3, p4⟩ = i := ⟨_, rfl⟩
          have hil : i ≤ n := by rw [← hii, ← HN.out]; exact hidx_lt _ _
          obtain ⟨c, hc, hc0, hc1, hcs⟩ := hits_get (fs := fs) (ps := ps) (k := k) (i := i) (by rw [HN.out]; exact hil)
          have HCS := Lib.hid (hcs _ HX.out hii)
          have HCC := Lib.hid hc
          have hidef : i = if r < 0 then n else r.toNat := by rw [← hii, hidx, hr, HN.out]
          have hm50 : m ≤ 50 := by rw [← HM.out]; exact pvalid_50 HPV.out
          have HI := Lib.hid (HO3.out.below hbr)
          clear hx hc hcs hr hii hb4 HO4
          go_wp2_with fail
          refine (firstWith_b (HI.out.below (by (repeat' (first | with_reducible exact Below.refl _ _ | with_reducible assumption | with_reducible refine Below.setCell ?_ ?_ _ | with_reducible refine Below.alloc ?_ ?_ _ | with_reducible refine Below.drew ?_ | with_reducible refine belDrewN ?_ _ | with_reducible refine Below.trans ?_ (Below.mono (by assumption) ?_) | omega | (simp; omega) | (simp; done))))) HRR.out).mono ?_
          rintro e w5 ⟨rfl, hb5⟩
          have hB5 : Below wr.heap.size wr w5 := by (repeat' (first | with_reducible exact Below.refl _ _ | with_reducible assumption | with_reducible refine Below.setCell ?_ ?_ _ | with_reducible refine Below.alloc ?_ ?_ _ | with_reducible refine Below.drew ?_ | with_reducible refine belDrewN ?_ _ | with_reducible refine Below.trans ?_ (Below.mono (by assumption) ?_) | omega | (simp; omega) | (simp; done)))
          have hz5 := hB5.size
          have hB35 : Below w3.heap.size w3 w5 := hbr.trans (hB5.mono hzr)
          have HO5 := Lib.hid (OwnSl.kept HO.out hB5)
          have hq := OwnSl.cell (sz := 1) (enc := encI) (fun _ => rfl) HO5.out (k := i) (y := c) HCC.out
          have q0 := hq 0 _ rfl
          have hfz : ∀ j, w5.frozen? ⟨w3.heap.size, j, none⟩ = false := OwnSl.frz HO5.out
          obtain ⟨hst, hgr⟩ := OwnSl.store (sz := 1) (enc := encI) (fun _ => rfl) (by rw [hits_len, HN.out]) HO5.out (k := i) (by rw [hits_len, HN.out]; omega) (c + 1)
          simp only [Nat.add_zero, Nat.mul_one, wSet] at q0 hst hgr
          rw [HCS.out] at hst
          have hB6 := hB35.grown hgr hB35.size (fun z hz => by cases hz; exact Nat.le_refl _)
          have HST := Lib.hid hst
          have HB6 := Lib.hid hB6
          clear hq hst hgr hB6 hb5 c0 c1 c2 c3
          by_cases hneg : r < 0
          · rw [if_pos hneg] at hidef
            subst hidef
            go_wp2
            go_roundw
            case rel => exact ⟨k + 1, by omega, by go_num, HST, HB6.out⟩
            case measure => simp [intOf]; omega
          · rw [if_neg hneg] at hidef
            obtain ⟨i', rfl⟩ : ∃ i' : Nat, r = i' := ⟨r.toNat, by omega⟩
            rw [Int.toNat_natCast] at hidef
            subst hidef
            have hd : decide ((i : Int) < 0) = false := decide_eq_false hneg
            go_wp2
            go_roundw
            case rel => exact ⟨k + 1, by omega, by go_num, HST, HB6.out⟩
            case measure => simp [intOf]; omega
        · have hkm : k = m := by omega
          subst hkm
          have HE := Lib.hid (show hits fs ps k = R by rw [← HR.out, hcount_yes HV.out HPV.out, HM.out])
          go_wp2
          go_ret
          refine ⟨_, rfl, ?_, hwr⟩
          rw [← HE.out]
          exact OwnSl.mono HO.out HW3.out.size
end Go.Proofs.YtkcnbkkgpampaaaDoor
