/- The marks of boxes and rules without calls of the call's own. -/
import Derived.Test.YtkcnbkkgpampaaaDoorFnK
namespace Go.Proofs.YtkcnbkkgpampaaaDoor
open Go.RowKit
theorem bxcnt_succ {b : Bx} {k : Nat} {xs : List Sp} (h : b[k]? = some xs) : bxcnt (b.take (k + 1)) = bxcnt (b.take k) + 2 * xs.length := gcnt_succ (cnt := fun xs : List Sp => 2 * xs.length) h
theorem bxcnt_at {b : Bx} {k : Nat} {xs : List Sp} (h : b[k]? = some xs) : bxcnt (b.take k) + 2 * xs.length ≤ bxcnt b := gcnt_at (cnt := fun xs : List Sp => 2 * xs.length) h
theorem bxmark_step {b : Bx} {k m : Nat} {xs : List Sp} (h : b[k]? = some xs) : (bxmark m (b.take k) ++ b.drop k).set k (Spmarks (m + bxcnt (b.take k)) xs.length) = bxmark m (b.take (k + 1)) ++ b.drop (k + 1) :=
  gmark_step (cnt := fun xs : List Sp => 2 * xs.length) (mk := fun m xs => Spmarks m xs.length) h
theorem bxmark_cur {b : Bx} {k m : Nat} {xs : List Sp} (h : b[k]? = some xs) : (bxmark m (b.take k) ++ b.drop k)[k]? = some xs := gmark_cur h
theorem bxmark_len (m : Nat) (b : Bx) : (bxmark m b).length = b.length := gmark_len m b
theorem bxmark_get {b : Bx} {k m : Nat} {xs : List Sp} (h : b[k]? = some xs) : (bxmark m b)[k]? = some (Spmarks (m + bxcnt (b.take k)) xs.length) := gmark_get (cnt := fun xs : List Sp => 2 * xs.length) (mk := fun m xs => Spmarks m xs.length) h
theorem ftcnt_succ {fs : List Ft} {k : Nat} {f : Ft} (h : fs[k]? = some f) : ftcnt (fs.take (k + 1)) = ftcnt (fs.take k) + (bxcnt f.box + 1) := gcnt_succ (cnt := fun f : Ft => bxcnt f.box + 1) h
theorem ftcnt_at {fs : List Ft} {k : Nat} {f : Ft} (h : fs[k]? = some f) : ftcnt (fs.take k) + (bxcnt f.box + 1) ≤ ftcnt fs := gcnt_at (cnt := fun f : Ft => bxcnt f.box + 1) h
theorem ftmark_step {fs : List Ft} {k m : Nat} {f : Ft} (h : fs[k]? = some f) : (ftmark m (fs.take k) ++ fs.drop k).set k ⟨bxmark (m + ftcnt (fs.take k)) f.box, accm (m + ftcnt (fs.take k) + bxcnt f.box)⟩ = ftmark m (fs.take (k + 1)) ++ fs.drop (k + 1) :=
  gmark_step (cnt := fun f : Ft => bxcnt f.box + 1) (mk := fun m f => ⟨bxmark m f.box, accm (m + bxcnt f.box)⟩) h
theorem ftmark_cur {fs : List Ft} {k m : Nat} {f : Ft} (h : fs[k]? = some f) : (ftmark m (fs.take k) ++ fs.drop k)[k]? = some f := gmark_cur h
theorem ftmark_len (m : Nat) (fs : List Ft) : (ftmark m fs).length = fs.length := gmark_len m fs
theorem ftmark_get {fs : List Ft} {k m : Nat} {f : Ft} (h : fs[k]? = some f) : (ftmark m fs)[k]? = some ⟨bxmark (m + ftcnt (fs.take k)) f.box, accm (m + ftcnt (fs.take k) + bxcnt f.box)⟩ := gmark_get (cnt := fun f : Ft => bxcnt f.box + 1) (mk := fun m f => ⟨bxmark m f.box, accm (m + bxcnt f.box)⟩) h
theorem bxcnt_full {b : Bx} {n : Nat} (h : b.length = n) : bxcnt (b.take n) = bxcnt b := by rw [List.take_of_length_le (by omega)]
theorem bxmark_full {b : Bx} {m n : Nat} (h : b.length = n) : bxmark m (b.take n) ++ b.drop n = bxmark m b := by rw [List.take_of_length_le (by omega), List.drop_of_length_le (by omega), List.append_nil]
theorem ftcnt_full {fs : List Ft} {n : Nat} (h : fs.length = n) : ftcnt (fs.take n) = ftcnt fs := by rw [List.take_of_length_le (by omega)]
theorem ftmark_full {fs : List Ft} {m n : Nat} (h : fs.length = n) : ftmark m (fs.take n) ++ fs.drop n = ftmark m fs := by rw [List.take_of_length_le (by omega), List.drop_of_length_le (by omega), List.append_nil]
set_option maxHeartbeats 2000000 in
theorem markSpanSS_any (lo hi : Nat) (b : Bx) (v : Value) (m : Nat) (w : World) (ho : GRw w lo hi v b) (hh : hi ≤ w.heap.size) (hN : m + bxcnt b ≤ 8388608) (he : ∀ (k : Nat) xs, b[k]? = some xs → xs.length ≤ 1048576) :
    Calls Tryd.prog 75 #[v, .int .i64 (m : Int)] w fun e w' => e = .returned (.int .i64 ((m + bxcnt b : Nat) : Int)) ∧ GRw w' lo hi v (bxmark m b) ∧ Chg lo hi w w' := by
  obtain ⟨a, cap, rfl, hlc, hcm⟩ := ho.form
  unfold maxLen at hcm
  generalize hn : b.length = n at *
  have HN := Lib.hid hn
  have HE := Lib.hid he
  have HG0 := Lib.hid ho
  clear hn he ho
  go_enter Tryd.func75, Tryd.ntmps75
  go_wp2_with fail
  go_loopw [1, 5] (fun q i wr => ∃ k : Nat, k ≤ n ∧ i = .int .i64 k ∧ q = .int .i64 ((m + bxcnt (b.take k) : Nat) : Int) ∧ Hid (GRw wr lo hi (.slice a n cap) (bxmark m (b.take k) ++ b.drop k)) ∧ Chg lo hi w wr) (fun _ i _ => n - (intOf i).toNat)
  case atStart => exact ⟨0, by omega, rfl, rfl, Lib.hid HG0.out, Chg.refl _ _ _⟩
  case round =>
    obtain ⟨k, hk, rfl, rfl, HG, hc⟩ := hrel
    have hzr := hc.below.size
    by_cases hlt : k < n
    · have i1 : (k : Int) < (n : Int) := by omega
      have i2 : (0 : Int) ≤ (k : Int) := by omega
      obtain ⟨xs, hx⟩ : ∃ xs, b[k]? = some xs := ⟨_, List.getElem?_eq_getElem (by rw [HN.out]; exact hlt)⟩
      have HX := Lib.hid hx
      obtain ⟨g, cap', vk, l, mm, hv, hl1, hl2, hl3, hp, hcell, hg1, hg2, hg3, hfz, hgo, hre, -⟩ := OwnG.elem (sz := 1) (enc := enc1) (fun _ => rfl) PSp.kind HG.out (bxmark_cur hx)
      obtain ⟨rfl, -, rfl⟩ := Value.slice.inj hv
      have c0 := hcell 0 _ rfl
      simp only [Nat.mul_one, Nat.add_zero] at c0
      have hcn := bxcnt_at hx
      have hcs := bxcnt_succ hx
      obtain ⟨mk, hmk⟩ : ∃ mk, m + bxcnt (b.take k) = mk := ⟨_, rfl⟩
      rw [hmk]
      have hxl := HE.out k xs hx
      have hmk2 : mk ≤ 8388608 := by omega
      have HRE := Lib.hid hre
      have HP := Lib.hid hp
      have HM := Lib.hid (show mk + 2 * xs.length = m + bxcnt (b.take (k + 1)) by omega)
      clear hre hp hcell hcn hcs hx hv
      go_wp2_with fail
      refine (markSpanS_any l xs vk mk wr HP.out.1 hxl hmk2).mono ?_
      rintro e w2 ⟨rfl, ho2, hgr⟩
      have hc2 : Chg l mm wr w2 := Chg.grown hgr (fun z hz => ⟨(World.ownsRow.lt HP.out.1 z hz).1, HP.out.2.1 z hz⟩) (by omega)
      have HG2 := Lib.hid (HRE.out w2 (Spmarks mk xs.length) hc2 ⟨ho2, HP.out.2⟩)
      have hcw : Chg lo hi w w2 := hc.trans (hc2.wide hl1 hl3)
      clear ho2 hgr hc2
      go_wp2
      go_roundw
      case rel =>
        refine ⟨k + 1, by omega, by go_num, by have := HM.out; exact congrArg (Value.int .i64) (by omega), Lib.hid ?_, hcw⟩
        have h := HG2.out
        rw [← hmk, bxmark_step HX.out] at h
        exact h
      case measure => simp [intOf]; omega
    · have hkn : k = n := by omega
      subst hkn
      have HR := Lib.hid HG.out
      go_wp2
      go_ret
      refine ⟨ret_int (by rw [bxcnt_full HN.out]), ?_, hc⟩
      have := HR.out
      rwa [bxmark_full HN.out] at this
set_option maxHeartbeats 1000000 in
theorem heldSpanSS_any {lo : Nat} (b : Bx) (v : Value) (m : Nat) (w : World) (hs : Rws lo w v (bxmark m b)) (hN : m + bxcnt b ≤ 8388608) (he : ∀ (k : Nat) xs, b[k]? = some xs → xs.length ≤ 1048576) :
    Calls Tryd.prog 76 #[v, .int .i64 (m : Int)] w fun e w' => e = .returned (.int .i64 ((m + bxcnt b : Nat) : Int)) ∧ w = w' := by
  obtain ⟨a, cap, rfl, hlc, hcm⟩ := hs.form
  unfold maxLen at hcm
  rw [bxmark_len] at hs hlc ⊢
  generalize hn : b.length = n at *
  have HN := Lib.hid hn
  have HE := Lib.hid he
  have HS := Lib.hid hs
  clear hn he hs
  go_enter Tryd.func76, Tryd.ntmps76
  go_wp2_with fail
  go_loop [1, 5] (fun q i => ∃ k : Nat, k ≤ n ∧ i = .int .i64 k ∧ q = .int .i64 ((m + bxcnt (b.take k) : Nat) : Int)) (fun _ i => n - (intOf i).toNat)
  case atStart => exact ⟨0, by omega, rfl, rfl⟩
  case round =>
    obtain ⟨k, hk, rfl, rfl⟩ := hrel
    by_cases hlt : k < n
    · have i1 : (k : Int) < (n : Int) := by omega
      have i2 : (0 : Int) ≤ (k : Int) := by omega
      obtain ⟨xs, hx⟩ : ∃ xs, b[k]? = some xs := ⟨_, List.getElem?_eq_getElem (by rw [HN.out]; exact hlt)⟩
      obtain ⟨b', o, sv, rfl, hbl, c0, hsv⟩ := HS.out.at (bxmark_get hx)
      have hcn := bxcnt_at hx
      have hcs := bxcnt_succ hx
      obtain ⟨mk, hmk⟩ : ∃ mk, m + bxcnt (b.take k) = mk := ⟨_, rfl⟩
      rw [hmk] at hsv ⊢
      have hxl := HE.out k xs hx
      have hmk2 : mk ≤ 8388608 := by omega
      have HSV := Lib.hid hsv
      have HM := Lib.hid (show mk + 2 * xs.length = m + bxcnt (b.take (k + 1)) by omega)
      clear hcn hcs hx hsv
      go_wp2_with fail
      refine (heldSpanS_any xs.length sv mk _ HSV.out.z hxl hmk2).mono ?_
      rintro e w2 ⟨rfl, rfl⟩
      have hp0 : ¬ ((mk + 2 * xs.length : Nat) : Int) < 0 := by omega
      go_wp2
      all_goals first | (exfalso; omega) | skip
      go_round
      case rel => exact ⟨k + 1, by omega, by go_num, by have := HM.out; exact congrArg (Value.int .i64) (by omega)⟩
      case measure => simp [intOf]; omega
    · have hkn : k = n := by omega
      subst hkn
      go_wp2
      go_ret
      exact ⟨ret_int (by rw [bxcnt_full HN.out]), rfl⟩
set_option maxHeartbeats 2000000 in
theorem markFlatS_any (lo hi : Nat) (fs : List Ft) (v : Value) (m : Nat) (w : World) (ho : GFs w lo hi v fs) (hh : hi ≤ w.heap.size) (hN : m + ftcnt fs ≤ 8388608) (he : ∀ (k : Nat) f, fs[k]? = some f → ∀ (j : Nat) xs, f.box[j]? = some xs → xs.length ≤ 1048576) :
    Calls Tryd.prog 25 #[v, .int .i64 (m : Int)] w fun e w' => e = .returned (.int .i64 ((m + ftcnt fs : Nat) : Int)) ∧ GFs w' lo hi v (ftmark m fs) ∧ Chg lo hi w w' := by
  obtain ⟨a, cap, rfl, hlc, hcm⟩ := ho.form
  unfold maxLen at hcm
  generalize hn : fs.length = n at *
  have HN := Lib.hid hn
  have HE := Lib.hid he
  have HG0 := Lib.hid ho
  clear hn he ho
  go_enter Tryd.func25, Tryd.ntmps25
  go_wp2_with fail
  go_loopw [1, 5] (fun q i wr => ∃ k : Nat, k ≤ n ∧ i = .int .i64 k ∧ q = .int .i64 ((m + ftcnt (fs.take k) : Nat) : Int) ∧ Hid (GFs wr lo hi (.slice a n cap) (ftmark m (fs.take k) ++ fs.drop k)) ∧ Chg lo hi w wr) (fun _ i _ => n - (intOf i).toNat)
  case atStart => exact ⟨0, by omega, rfl, rfl, Lib.hid HG0.out, Chg.refl _ _ _⟩
  case round =>
    obtain ⟨k, hk, rfl, rfl, HG, hc⟩ := hrel
    have hzr := hc.below.size
    by_cases hlt : k < n
    · have i1 : (k : Int) < (n : Int) := by omega
      have i2 : (0 : Int) ≤ (k : Int) := by omega
      obtain ⟨f, hx⟩ : ∃ f, fs[k]? = some f := ⟨_, List.getElem?_eq_getElem (by rw [HN.out]; exact hlt)⟩
      have HX := Lib.hid hx
      obtain ⟨g, cap', r, l, mm, hv, hl1, hl2, hl3, hp, hcell, hg1, hg2, hg3, hfz, hgo, hre, -⟩ := OwnG.elem (sz := 2) (enc := RF.enc) (fun _ => rfl) PFg.kind HG.out (ftmark_cur hx)
      obtain ⟨rfl, -, rfl⟩ := Value.slice.inj hv
      have c0 := hcell 0 _ rfl
      simp only [Nat.add_zero] at c0
      have hcn := ftcnt_at hx
      have hcs := ftcnt_succ hx
      obtain ⟨mk, hmk⟩ : ∃ mk, m + ftcnt (fs.take k) = mk := ⟨_, rfl⟩
      rw [hmk]
      have hmk2 : mk + bxcnt f.box ≤ 8388608 := by omega
      have HRE := Lib.hid hre
      have HP := Lib.hid hp
      have HM := Lib.hid (show mk + bxcnt f.box + 1 = m + ftcnt (fs.take (k + 1)) by omega)
      have HEF := Lib.hid (HE.out k f hx)
      clear hre hp hcell hcn hcs hx hv hfz
      go_wp2_with fail
      refine (markSpanSS_any l mm f.box r.s mk wr HP.out.1 (by omega) hmk2 HEF.out).mono ?_
      rintro e w2 ⟨rfl, ho2, hc2⟩
      have hz2 := hc2.below.size
      have HG2 := Lib.hid (HRE.out w2 ⟨bxmark mk f.box, f.acc⟩ hc2 ⟨ho2, HP.out.2⟩)
      have hcw : Chg lo hi w w2 := hc.trans (hc2.wide hl1 hl3)
      clear ho2 hc2
      have hcur : ((ftmark m (fs.take k) ++ fs.drop k).set k (⟨bxmark mk f.box, f.acc⟩ : Ft))[k]? = some ⟨bxmark mk f.box, f.acc⟩ := by
        rw [List.getElem?_set_self]
        exact (List.getElem?_eq_some_iff.1 (ftmark_cur (m := m) HX.out)).1
      obtain ⟨g', cap'', r', l', mm', hv, hl1', hl2', hl3', hp', hcell', -, -, -, hfz, hgo', -, hre'⟩ := OwnG.elem (sz := 2) (enc := RF.enc) (fun _ => rfl) PFg.kind HG2.out hcur
      obtain ⟨he, -, -⟩ := Value.slice.inj hv
      obtain ⟨rfl, -, -⟩ := Addr.mk.inj (Option.some.inj he)
      have c1 := hcell' 1 _ rfl
      have f1 := hfz (k * 2 + 1)
      obtain ⟨p, hpp⟩ : ∃ p, accm (mk + bxcnt f.box) = p := ⟨_, rfl⟩
      have HPP := Lib.hid hpp
      have HG3 := Lib.hid (hre' 1 (.bool p) ⟨r'.s, p⟩ ⟨bxmark mk f.box, p⟩ (by omega) rfl ⟨GRw.kind.keep _ _ _ _ _ _ hp'.1 (Kpi.setCell w2 hgo'), rfl⟩)
      have HC3 := Lib.hid (hcw.trans (Chg.setCell w2 (p := ⟨g, k * 2 + 1, none⟩) (c := .bool p) hg1 hg2))
      clear hcell' hp' hre' hv he hpp hcur hfz
      have hac : (((mk : Int) + (bxcnt f.box : Int)) % 3 == 0) = p := by have := HPP.out; unfold accm at this; rwa [Int.natCast_add] at this
      go_wp2
      go_roundw
      case rel =>
        refine ⟨k + 1, by omega, by go_num, by have := HM.out; exact congrArg (Value.int .i64) (by omega), Lib.hid ?_, HC3.out⟩
        have h := HG3.out
        have hst := ftmark_step (m := m) HX.out
        rw [hmk, HPP.out] at hst
        rw [List.set_set, hst] at h
        exact h
      case measure => simp [intOf]; omega
    · have hkn : k = n := by omega
      subst hkn
      have HR := Lib.hid HG.out
      go_wp2
      go_ret
      refine ⟨ret_int (by rw [ftcnt_full HN.out]), ?_, hc⟩
      have := HR.out
      rwa [ftmark_full HN.out] at this
set_option maxHeartbeats 1000000 in
theorem heldFlatS_any {lo : Nat} (fs : List Ft) (v : Value) (m : Nat) (w : World) (hs : Fts lo w v (ftmark m fs)) (hN : m + ftcnt fs ≤ 8388608) (he : ∀ (k : Nat) f, fs[k]? = some f → ∀ (j : Nat) xs, f.box[j]? = some xs → xs.length ≤ 1048576) :
    Calls Tryd.prog 26 #[v, .int .i64 (m : Int)] w fun e w' => e = .returned (.int .i64 ((m + ftcnt fs : Nat) : Int)) ∧ w = w' := by
  obtain ⟨a, cap, rfl, hlc, hcm⟩ := hs.form
  unfold maxLen at hcm
  rw [ftmark_len] at hs hlc ⊢
  generalize hn : fs.length = n at *
  have HN := Lib.hid hn
  have HE := Lib.hid he
  have HS := Lib.hid hs
  clear hn he hs
  go_enter Tryd.func26, Tryd.ntmps26
  go_wp2_with fail
  go_loop [1, 5] (fun q i => ∃ k : Nat, k ≤ n ∧ i = .int .i64 k ∧ q = .int .i64 ((m + ftcnt (fs.take k) : Nat) : Int)) (fun _ i => n - (intOf i).toNat)
  case atStart => exact ⟨0, by omega, rfl, rfl⟩
  case round =>
    obtain ⟨k, hk, rfl, rfl⟩ := hrel
    by_cases hlt : k < n
    · have i1 : (k : Int) < (n : Int) := by omega
      have i2 : (0 : Int) ≤ (k : Int) := by omega
      obtain ⟨f, hx⟩ : ∃ f, fs[k]? = some f := ⟨_, List.getElem?_eq_getElem (by rw [HN.out]; exact hlt)⟩
      obtain ⟨b', o, sv, rfl, hbl, c0, c1, hsv⟩ := HS.out.at (ftmark_get hx)
      have hcn := ftcnt_at hx
      have hcs := ftcnt_succ hx
      obtain ⟨mk, hmk⟩ : ∃ mk, m + ftcnt (fs.take k) = mk := ⟨_, rfl⟩
      simp only [hmk] at hsv c1
      rw [hmk]
      obtain ⟨p, hpp⟩ : ∃ p, accm (mk + bxcnt f.box) = p := ⟨_, rfl⟩
      rw [hpp] at c1
      have hac : (((mk : Int) + (bxcnt f.box : Int)) % 3 == 0) = p := by have := hpp; unfold accm at this; rwa [Int.natCast_add] at this
      have hmk2 : mk + bxcnt f.box ≤ 8388608 := by omega
      have HSV := Lib.hid hsv
      have HM := Lib.hid (show mk + bxcnt f.box + 1 = m + ftcnt (fs.take (k + 1)) by omega)
      have HEF := Lib.hid (HE.out k f hx)
      clear hcn hcs hx hsv hpp
      go_wp2_with fail
      refine (heldSpanSS_any f.box sv mk _ HSV.out hmk2 HEF.out).mono ?_
      rintro e w2 ⟨rfl, rfl⟩
      have hp0 : ¬ ((mk + bxcnt f.box : Nat) : Int) < 0 := by omega
      go_wp2
      all_goals first | (exfalso; omega) | skip
      go_round
      case rel => exact ⟨k + 1, by omega, by go_num, by have := HM.out; exact congrArg (Value.int .i64) (by omega)⟩
      case measure => simp [intOf]; omega
    · have hkn : k = n := by omega
      subst hkn
      go_wp2
      go_ret
      exact ⟨ret_int (by rw [ftcnt_full HN.out]), rfl⟩
end Go.Proofs.YtkcnbkkgpampaaaDoor
