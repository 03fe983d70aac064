/- HitCounts: the reference's walk. -/
import Derived.Test.YtkcnbkkgpampaaaDoorHtK
import Derived.Test.YtkcnbkkgpampaaaDoorFmDb
namespace Go.Proofs.YtkcnbkkgpampaaaDoor
open Go.RowKit
theorem litOwnI {base : Nat} {w : World} (h : base ≤ w.heap.size) : OwnIn base (w.alloc (.cells #[] 3)) (.slice (some ⟨w.heap.size, 0, none⟩) 0 0) [] := by
  have := World.ownsRow_made (e := 3) (size := 1) w #[] 0 h (by simp) (by simp)
  simpa [OwnIn, OwnSl] using this
theorem specDB_r {lo : Nat} {fs : List Ft} {v : Value} {p1 p2 p3 p4 : Int} {w : World} {r : Int} (hs : Fts lo w v fs) (h : dby fs ⟨p1, p2, p3, p4⟩ = r) :
    Calls Tryd.prog 20 #[v, .agg #[.int .i64 p1, .int .i64 p2, .int .i64 p3, .int .i64 p4]] w fun e w' => e = .returned (.int .i64 r) ∧ Below w.heap.size w w' := by
  subst h
  exact specDB_any fs v p1 p2 p3 p4 w hs
theorem hcount_nofs {fs : List Ft} {ps : List Pk} (h : fvalid fs = false) : hcount fs ps = [] := by unfold hcount; rw [h]; rfl
theorem hcount_nops {fs : List Ft} {ps : List Pk} (h : pvalid ps = false) : hcount fs ps = [] := by unfold hcount; rw [h, Bool.and_false]; rfl
theorem hcount_yes {fs : List Ft} {ps : List Pk} (h : fvalid fs = true) (hp : pvalid ps = true) : hcount fs ps = hits fs ps ps.length := by unfold hcount; rw [h, hp]; rfl
theorem dby_fw {fs : List Ft} {p : Pk} (h : fvalid fs = true) (hp : Pk.ok p = true) : dby fs p = fwith fs p 0 := by unfold dby; rw [h, hp]; rfl
/-- One count is raised. -/
theorem hits_get {fs : List Ft} {ps : List Pk} {k i : Nat} (h : i ≤ fs.length) : ∃ c : Int, (hits fs ps k)[i]? = some c ∧ 0 ≤ c ∧ c ≤ k ∧ (∀ p, ps[k]? = some p → hidx fs p = i → (hits fs ps k).set i (c + 1) = hits fs ps (k + 1)) := by
  have hl := hits_len fs ps k
  obtain ⟨c, hc⟩ : ∃ c, (hits fs ps k)[i]? = some c := ⟨_, List.getElem?_eq_getElem (by omega)⟩
  obtain ⟨h0, h1⟩ := hits_bound fs ps k i c hc
  refine ⟨c, hc, h0, h1, fun p hp hi => ?_⟩
  rw [hits_succ hp, hinc, hi, List.getD_eq_getElem?_getD, hc]
  rfl
set_option maxHeartbeats 2000000 in
set_option maxRecDepth 100000 in
theorem specHitCounts_e {lo : Nat} {fs : List Ft} {ps : List Pk} {R : List Int} {v u : Value} {w : World} (hs : Fts lo w v fs) (hp : Pks w u ps) (h : hcount fs ps = R) :
    Calls Tryd.prog 40 #[v, u] w fun e w' => ∃ v', e = .returned v' ∧ OwnIn w.heap.size w' v' R ∧ Below w.heap.size w w' := by
  obtain ⟨a, cap, rfl, hlc, hcm⟩ := hs.form
  obtain ⟨a', cap', rfl, hlc', hcm', -⟩ := id hp
  unfold maxLen at hcm hcm'
  have HR := Lib.hid h
  have HS := Lib.hid hs
  have HP := Lib.hid hp
  clear h hs hp
  generalize hn : fs.length = n at *
  generalize hm : ps.length = m at *
  have HN := Lib.hid hn
  have HM := Lib.hid hm
  clear hn hm
  cases hv : fvalid fs
  · have HE := Lib.hid ((hcount_nofs (ps := ps) hv).symm.trans HR.out)
    go_enter Tryd.func40, Tryd.ntmps40
    go_wp2_with fail
    refine (specFV_b HS.out hv).mono ?_
    rintro e w1 ⟨rfl, hb1⟩
    go_wp2
    go_ret
    exact ⟨_, rfl, by rw [← HE.out]; exact litOwnI hb1.size, hb1.alloc hb1.size _⟩
  · have HV := Lib.hid hv
    have hn60 : n ≤ 60 := by rw [← HN.out]; exact fvalid_60 hv
    by_cases h50 : 50 < m
    · have HE := Lib.hid ((hcount_nops (fs := fs) (pvalid_big (ps := ps) (by rw [HM.out]; exact h50))).symm.trans HR.out)
      have h50i : (50 : Int) < (m : Int) := by omega
      go_enter Tryd.func40, Tryd.ntmps40
      go_wp2_with fail
      refine (specFV_b HS.out hv).mono ?_
      rintro e w1 ⟨rfl, hb1⟩
      go_wp2
      go_ret
      exact ⟨_, rfl, by rw [← HE.out]; exact litOwnI hb1.size, hb1.alloc hb1.size _⟩
    · have h50i : ¬ (50 : Int) < (m : Int) := by omega
      have h50d : decide ((50 : Int) < (m : Int)) = false := decide_eq_false h50i
      go_enter Tryd.func40, Tryd.ntmps40
      go_wp2_with fail
      refine (specFV_b HS.out hv).mono ?_
      rintro e w1 ⟨rfl, hb1⟩
      have hs1 := HS.out.below hb1
      obtain ⟨i0, hi, hz0, hz1, hz2⟩ := info_parts infoInt
      go_wp2_with (at_make; refine wpList_make_full _ rfl _ _ 61 rfl w1.heap.size 3 i0 _ 1 Tryd.underlying61 hi hz0 hz1 _ _ _ _ (n + 1) rfl rfl rfl rfl ?b1 ?b2 ?b3 ?_)
      case b1 => rw [hz2]; omega
      case b2 => simp only [maxLen]; omega
      case b3 => omega
      intro w2 hown2 hgrow2
      have hb2 : Below w1.heap.size w1 w2 := (Below.refl _ _).grown hgrow2 (Nat.le_refl _) (fun k hk => by cases hk)
      have HO2 := Lib.hid (show OwnIn w1.heap.size w2 (.slice (some ⟨w1.heap.size, 0, none⟩) (n + 1) (n + 1)) (hits fs ps 0) by
        unfold OwnIn OwnSl hits
        rw [HN.out, List.length_replicate, ← madeFlat (sz := 1) (enc := encI) (fun _ => rfl) (by omega) (.int .i64 0) (0 : Int) rfl, Nat.mul_one]
        exact hown2)
      have hz1w : w1.heap.size < w2.heap.size := by
        rcases OwnSl.form HO2.out with ⟨h, _⟩ | ⟨g, cp, h, _, h2, _⟩
        · cases h
        · obtain ⟨h3, _, _⟩ := Value.slice.inj h; cases h3; exact h2
      have HW1 := Lib.hid hb1
      clear hown2 hgrow2 hb1
      go_wp2_with fail
      go_loopw [6, 7] (fun i _ wr => ∃ k : Nat, k ≤ m ∧ i = .int .i64 k ∧ Hid (OwnIn w1.heap.size wr (.slice (some ⟨w1.heap.size, 0, none⟩) (n + 1) (n + 1)) (hits fs ps k)) ∧ Hid (∀ (j : Nat) p, j < k → ps[j]? = some p → Pk.ok p = true) ∧ Below w1.heap.size w1 wr) (fun i _ _ => m - (intOf i).toNat)
      case atStart => exact ⟨0, by omega, rfl, HO2, Lib.hid (fun j p hj => by omega), hb2⟩
      case round =>
        obtain ⟨k, hk, rfl, HO, HK, hbr⟩ := hrel
        have hzr := hbr.size
        have hwr : Below w.heap.size w wr := HW1.out.trans (hbr.mono HW1.out.size)
        by_cases hlt : k < m
        · have i1 : (k : Int) < (m : Int) := by omega
          have i2 : (0 : Int) ≤ (k : Int) := by omega
          obtain ⟨b, o, p1, p2, p3, p4, rfl, hbl, hx, c0, c1, c2, c3⟩ := (HP.out.below hwr).at (show k < ps.length by rw [HM.out]; exact hlt)
          have HX := Lib.hid hx
          clear hx
          cases hok : Pk.ok ⟨p1, p2, p3, p4⟩
          · have HE := Lib.hid ((hcount_nops (fs := fs) (pvalid_no HX.out hok)).symm.trans HR.out)
            go_wp2_with fail
            refine (specPV_b hok _).mono ?_
            rintro e w3 ⟨rfl, hb3⟩
            have hw3 : Below w.heap.size w w3 := hwr.trans (hb3.mono hwr.size)
            go_wp2
            go_ret
            exact ⟨_, rfl, by rw [← HE.out]; exact litOwnI hw3.size, hw3.alloc hw3.size _⟩
          · have HK2 := Lib.hid (show ∀ (j : Nat) p, j < k + 1 → ps[j]? = some p → Pk.ok p = true from fun j p hj hp => by
              by_cases e : j = k
              · subst e; have := HX.out; rw [hp] at this; cases this; exact hok
              · exact HK.out j p (by omega) hp)
            obtain ⟨r, hr⟩ : ∃ r, fwith fs ⟨p1, p2, p3, p4⟩ 0 = r := ⟨_, rfl⟩
            have HRR := Lib.hid ((dby_fw HV.out hok).trans hr)
            have hrr := fwith_range fs ⟨p1, p2, p3, p4⟩ 0
            rw [hr, HN.out] at hrr
            obtain ⟨i, hii⟩ : ∃ i, hidx fs ⟨p1, p2, p3, p4⟩ = i := ⟨_, rfl⟩
            have hil : i ≤ n := by rw [← hii, ← HN.out]; exact hidx_lt _ _
            obtain ⟨c, hc, hc0, hc1, hcs⟩ := hits_get (fs := fs) (ps := ps) (k := k) (i := i) (by rw [HN.out]; exact hil)
            have HCS := Lib.hid (hcs _ HX.out hii)
            have hidef : i = if r < 0 then n else r.toNat := by rw [← hii, hidx, hr, HN.out]
            go_wp2_with fail
            refine (specPV_b hok _).mono ?_
            rintro e w3 ⟨rfl, hb3⟩
            have hz3 := hb3.size
            have hB3 : Below w1.heap.size w1 w3 := hbr.trans (hb3.mono hzr)
            have hs3 := HS.out.below (hwr.trans (hb3.mono hwr.size))
            have d0 := (hb3.cell (p := ⟨b, o + k * 4, none⟩) hbl).trans c0
            have d1 := (hb3.cell (p := ⟨b, o + k * 4 + 1, none⟩) hbl).trans c1
            have d2 := (hb3.cell (p := ⟨b, o + k * 4 + 2, none⟩) hbl).trans c2
            have d3 := (hb3.cell (p := ⟨b, o + k * 4 + 3, none⟩) hbl).trans c3
            have HO3 := Lib.hid (OwnSl.kept HO.out hb3)
            have HCC := Lib.hid hc
            clear c0 c1 c2 c3 hc hcs hr hii hb3 hs1 hb2 HO2
            go_wp2_with fail
            refine (specDB_r hs3 HRR.out).mono ?_
            rintro e w4 ⟨rfl, hb4⟩
            have hz4 := hb4.size
            have hB4 : Below w1.heap.size w1 w4 := hB3.trans (hb4.mono hB3.size)
            have HO4 := Lib.hid (OwnSl.kept HO3.out hb4)
            clear hb4
            have hq := OwnSl.cell (sz := 1) (enc := encI) (fun _ => rfl) HO4.out (k := i) (y := c) HCC.out
            have q0 := hq 0 _ rfl
            have hfz : ∀ j, w4.frozen? ⟨w1.heap.size, j, none⟩ = false := OwnSl.frz HO4.out
            obtain ⟨hst, hgr⟩ := OwnSl.store (sz := 1) (enc := encI) (fun _ => rfl) (by rw [hits_len, HN.out]) HO4.out (k := i) (by rw [hits_len, HN.out]; omega) (c + 1)
            simp only [Nat.add_zero, Nat.mul_one, wSet] at q0 hst hgr
            rw [HCS.out] at hst
            have hB5 := hB4.grown hgr hB4.size (fun z hz => by cases hz; exact Nat.le_refl _)
            have HST := Lib.hid hst
            have HB5 := Lib.hid hB5
            clear hq hst hgr hB5
            by_cases hneg : r < 0
            · rw [if_pos hneg] at hidef
              subst hidef
              go_wp2
              go_roundw
              case rel => exact ⟨k + 1, by omega, by go_num, HST, HK2, HB5.out⟩
              case measure => simp [intOf]; omega
            · rw [if_neg hneg] at hidef
              obtain ⟨i', rfl⟩ : ∃ i' : Nat, r = i' := ⟨r.toNat, by omega⟩
              rw [Int.toNat_natCast] at hidef
              subst hidef
              have hd : decide ((i : Int) < 0) = false := decide_eq_false hneg
              go_wp2
              go_roundw
              case rel => exact ⟨k + 1, by omega, by go_num, HST, HK2, HB5.out⟩
              case measure => simp [intOf]; omega
        · have hkm : k = m := by omega
          subst hkm
          have HE := Lib.hid (show hits fs ps k = R by
            rw [← HR.out, hcount_yes HV.out (pvalid_yes (by rw [HM.out]; omega) (fun j p hp => HK.out j p (by rw [← HM.out]; exact (List.getElem?_eq_some_iff.1 hp).1) hp)), HM.out])
          go_wp2
          go_ret
          refine ⟨_, rfl, ?_, hwr⟩
          rw [← HE.out]
          exact OwnSl.mono HO.out HW1.out.size
end Go.Proofs.YtkcnbkkgpampaaaDoor
