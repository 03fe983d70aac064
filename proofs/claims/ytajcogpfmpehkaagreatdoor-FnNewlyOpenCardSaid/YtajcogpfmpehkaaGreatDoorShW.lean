/- Shorten: both walks. -/
import Derived.Test.YtajcogpfmpehkaaGreatDoorMgS
import Derived.Test.YtajcogpfmpehkaaGreatDoorDrS
import Derived.Test.YtajcogpfmpehkaaGreatDoorFtW
namespace Go.Proofs.YtajcogpfmpehkaaGreatDoor
open Go.RowKit
set_option maxHeartbeats 2000000 in
set_option maxRecDepth 100000 in
theorem specShorten_e {lo : Nat} {fs R : List Ft} {v : Value} {r : Bool} {w : World} (hs : Fts lo w v fs) (hN : ftN fs ≤ 1048576) (h : shoB fs r = R) :
    Calls Tryz.prog 44 #[v, .bool r] w fun e w' => ∃ v', e = .returned v' ∧ Fts 0 w' v' R ∧ Below w.heap.size w w' := by
  have HR := Lib.hid h
  clear h
  obtain ⟨fv, hfv⟩ : ∃ fv, fvalid fs = fv := ⟨_, rfl⟩
  go_enter Tryz.func44, Tryz.ntmps44
  go_wp2_with fail
  refine (ownFlats_any fs _ _ hs hN).mono ?_
  rintro e w1 ⟨v1, rfl, ho1, hb1⟩
  have hz1 := hb1.size
  have hs1 := ho1.fts
  obtain ⟨sa, sc, rfl, hsc, hsm⟩ := hs1.form
  unfold maxLen at hsm
  clear hs ho1
  go_wp2_with fail
  refine (specFV_b hs1 hfv).mono ?_
  rintro e w2 ⟨rfl, hb2⟩
  have hw2 := hb1.trans (hb2.mono hz1)
  have hs2 := hs1.below hb2
  clear hb2 hs1 hb1
  cases fv
  · go_wp2
    go_ret
    refine ⟨_, rfl, ?_, hw2.alloc hw2.size _⟩
    rw [← HR.out, shoB, hfv]
    exact rf_fts (litOwn 81 2 RF.enc (Nat.le_refl _)) All2.nil
  · have HV0 := Lib.hid hfv
    have h60 := fvalid_60 hfv
    have HQ := Lib.hid (show sho fs r = R by rw [← HR.out, shoB, hfv]; rfl)
    obtain ⟨v3, w3, hrun3, ⟨rs3, ho3, hr3⟩, hb3⟩ := copyFts hs2 (Nat.le_refl _) (by omega)
    rw [List.take_length] at hr3
    have hw3 := hw2.trans (hb3.mono hw2.size)
    have HS0 := Lib.hid (rf_fts ho3 (show RFs w3 rs3 fs from hr3.mono (fun _ _ g => ⟨(g.1.below hb3).mono (Nat.zero_le _), g.2⟩)))
    clear hs2 ho3 hr3 hfv
    go_wp2_with (at_builtin; refine wpList_append_run rfl _ _ 23 rfl rfl rfl hrun3 ?_)
    go_wp2_with fail
    go_loopw [5, 6] (fun l _ wr => ∃ L : List Ft, Hid (Fts 0 wr l L) ∧ Hid (fvalid L = true) ∧ Hid (sho L r = sho fs r) ∧ Hid (slen l = L.length) ∧ Below w.heap.size w wr) (fun l _ _ => slen l)
    case atStart => exact ⟨fs, HS0, HV0, Lib.hid rfl, Lib.hid (by obtain ⟨a, c, h, -, -⟩ := HS0.out.form; rw [h]; rfl), hw3⟩
    case round =>
      obtain ⟨L, HL, HV, HI, HSL, hbr⟩ := hrel
      clear HS0 HV0
      have hzr := hbr.size
      obtain ⟨la, lc, rfl, hlc, hlm⟩ := HL.out.form
      unfold maxLen at hlm
      have h60 := fvalid_60 HV.out
      obtain ⟨D, hD⟩ : ∃ D, dropd L = D := ⟨_, rfl⟩
      obtain ⟨M, hM⟩ : ∃ M, mgf D = M := ⟨_, rfl⟩
      have HDN := Lib.hid (fvalid_fN (show fvalid D = true by rw [← hD]; exact dropd_valid L))
      have HMN := Lib.hid (fvalid_fN (show fvalid M = true by rw [← hM]; exact mgf_valid D))
      have HS1 := Lib.hid (show ttrim M r = sho1 L r by unfold sho1; rw [hD, hM])
      have HD := Lib.hid hD
      have HM := Lib.hid hM
      clear hM hD
      go_wp2_with fail
      refine (specDropDead_e HL.out (fvalid_fN HV.out) HD.out).mono ?_
      rintro e w4 ⟨z4, rfl, ho4, hb4⟩
      have hw4 := hbr.trans (hb4.mono hzr)
      have HO4 := Lib.hid ho4
      clear hb4 ho4
      go_wp2_with fail
      refine (specMergeFlats_e HO4.out HDN.out HM.out).mono ?_
      rintro e w5 ⟨z5, rfl, ho5, hb5⟩
      have hw5 := hw4.trans (hb5.mono hw4.size)
      have HO5 := Lib.hid ho5
      clear hb5 ho5
      go_wp2_with fail
      refine (specTrimTail_e HO5.out HMN.out HS1.out).mono ?_
      rintro e w6 ⟨z6, rfl, ho6, hb6⟩
      have hw6 := hw5.trans (hb6.mono hw5.size)
      obtain ⟨ta, tc, rfl, -, -⟩ := ho6.form
      have HO6 := Lib.hid (ho6.mono (Nat.zero_le _))
      clear hb6 ho6
      have hle := sho1_len L r
      have HS := Lib.hid (fun h => sho_stop (fs := L) (r := r) h)
      have HN := Lib.hid (fun h => sho_step (fs := L) (r := r) h)
      have HV1 := Lib.hid (sho1_valid L r)
      by_cases he : (sho1 L r).length = L.length
      · have hq : (((sho1 L r).length : Int) == (L.length : Int)) = true := by rw [he]; exact beq_self_eq_true _
        have HE := Lib.hid (((HS.out he).symm.trans HI.out).trans HQ.out)
        generalize (sho1 L r).length = m at *
        clear he
        go_wp2
        go_ret
        exact ⟨_, rfl, by rw [← HE.out]; exact HO6.out, hw6⟩
      · have hq : (((sho1 L r).length : Int) == (L.length : Int)) = false := by simpa using (by omega : ((sho1 L r).length : Int) ≠ L.length)
        have HE := Lib.hid ((HN.out he).symm.trans HI.out)
        have HLT := Lib.hid (show (sho1 L r).length < L.length by omega)
        obtain ⟨m, hm⟩ : ∃ m, (sho1 L r).length = m := ⟨_, rfl⟩
        rw [hm] at hq HLT ⊢
        have HO7 := Lib.hid (show Fts 0 w6 (.slice ta m tc) (sho1 L r) by have := HO6.out; rwa [hm] at this)
        have HML := Lib.hid hm
        clear he hm HO6 hle
        go_wp2
        go_roundw
        case rel => exact ⟨_, HO7, HV1, HE, Lib.hid HML.out.symm, hw6⟩
        case measure => exact HLT.out
end Go.Proofs.YtajcogpfmpehkaaGreatDoor
