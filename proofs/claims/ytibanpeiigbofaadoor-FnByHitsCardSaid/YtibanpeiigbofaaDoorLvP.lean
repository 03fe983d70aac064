/- Lists of boxes in the exact laws; live parts and dead rules: plain laws. -/
import Derived.Test.YtibanpeiigbofaaDoorDxBT
import Derived.Test.YtibanpeiigbofaaDoorFnX
import Derived.Test.YtibanpeiigbofaaDoorFtW
import Derived.Test.YtibanpeiigbofaaDoorCuW
import Derived.Test.YtibanpeiigbofaaDoorDxAJ
namespace Go.Proofs.YtibanpeiigbofaaDoor
open Go.RowKit
/-- Boxes of the call's own. -/
def GBs : World → Nat → Nat → Value → List Bx → Prop := OwnG 58 1 enc1 GRw
theorem GBs.kind : Kind GBs := OwnG.kind GRw.kind
theorem GBs.bxs {w : World} {lo hi : Nat} {v : Value} {bs : List Bx} (h : GBs w lo hi v bs) : Bxs lo w v bs := by
  obtain ⟨vs, h1, h2, h3, h4⟩ := h
  exact ⟨vs, OwnSl.fr (sz := 1) (enc := enc1) (fun _ => rfl) h1, h4.all2 (GRw.kind.leO w _) (fun l m x y g1 _ g3 => Rws.mono g3.1.rws g1)⟩
theorem GBs.form {w : World} {lo hi : Nat} {v : Value} {bs : List Bx} (h : GBs w lo hi v bs) : ∃ a cap, v = .slice a bs.length cap ∧ bs.length ≤ cap ∧ cap ≤ maxLen := Bxs.form h.bxs
theorem GBs.nil (w : World) {lo hi : Nat} (h : lo ≤ hi) : GBs w lo hi (.slice none 0 0) [] := ⟨[], World.ownsRow_nil _ _ _ _, (fun z hz => by cases hz), h, h⟩
set_option maxHeartbeats 2000000 in
theorem eqBoxS_any {lo lo' : Nat} (xs ys : List Bx) (v u : Value) (w : World) (hs : Bxs lo w v xs) (hu : Bxs lo' w u ys) :
    Calls Tryd.prog 24 #[v, u] w fun e w' => e = .returned (.bool (decide (xs = ys))) ∧ Below w.heap.size w w' := by
  obtain ⟨a, cap, rfl, hlc, hcm⟩ := hs.form
  obtain ⟨a', cap', rfl, hlc', hcm'⟩ := hu.form
  unfold maxLen at hcm hcm'
  by_cases hne : xs.length = ys.length
  · have hm : ys.length = xs.length := hne.symm
    rw [hm] at hu hlc' ⊢
    generalize hn : xs.length = n at *
    have HN := Lib.hid hn
    have HM := Lib.hid hm
    clear hn hm hne
    go_enter Tryd.func24, Tryd.ntmps24
    go_wp2_with fail
    go_loopw [5] (fun i wr => ∃ k : Nat, k ≤ n ∧ i = .int .i64 k ∧ xs.take k = ys.take k ∧ Below w.heap.size w wr) (fun i _ => n - (intOf i).toNat)
    case atStart => exact ⟨0, by omega, rfl, rfl, Below.refl _ _⟩
    case round =>
      obtain ⟨k, hk, rfl, hq, hbr⟩ := hrel
      have HQ := Lib.hid hq; clear hq
      have hs2 := hs.below hbr
      have hu2 := hu.below hbr
      have hzr := hbr.size
      by_cases hlt : k < n
      · obtain ⟨x, hx⟩ : ∃ x, xs[k]? = some x := ⟨_, List.getElem?_eq_getElem (by rw [HN.out]; exact hlt)⟩
        obtain ⟨y, hy⟩ : ∃ y, ys[k]? = some y := ⟨_, List.getElem?_eq_getElem (by rw [HM.out]; exact hlt)⟩
        obtain ⟨b, o, sv, rfl, hbl, c0, hsv⟩ := hs2.at hx
        obtain ⟨b', o', su, rfl, hbl', d0, hsu⟩ := hu2.at hy
        have HX := Lib.hid hx; have HY := Lib.hid hy
        have HSV := Lib.hid hsv; have HSU := Lib.hid hsu
        clear hx hy hsv hsu
        have i1 : (k : Int) < (n : Int) := by omega
        have i2 : (0 : Int) ≤ (k : Int) := by omega
        by_cases he : x = y
        · have HE := Lib.hid he; clear he
          have hd := decide_eq_true HE.out
          go_wp2_with fail
          refine wp_region_over (by kernel_rfl) (by kernel_rfl) (fun ov => ?_); have ov0 := fun x => ov x (b) (by (try simp) <;> omega); have ov1 := fun x => ov x (b') (by (try simp) <;> omega); clear ov; (iterate 9 (iterate 8 (try go_big_quiet_step (first | (go_at_call 82; with_reducible exact callsOver (eqBox_b (HSV.out.below (over_below _ _)) (HSU.out.below (over_below _ _)) hd)))))); refine wpQuiet_nil ?_; intro w9 hw9; have hb_w9 := below_over hw9; clear hw9 ov0 ov1
          have hb10 : Below w.heap.size w w9 := hbr.trans (hb_w9.mono hzr)
          clear hb_w9
          go_wp2
          go_roundw
          case rel => exact ⟨k + 1, by omega, by go_num, take_eq_succ HQ.out HX.out HY.out HE.out, hb10⟩
          case measure => simp [intOf]; omega
        · have HE := Lib.hid (show decide (xs = ys) = false from decide_eq_false (fun h => he (by have h1 := HX.out; have h2 := HY.out; rw [h, h2] at h1; exact (Option.some.inj h1).symm)))
          have hd := decide_eq_false he
          clear he
          go_wp2_with fail
          refine wp_region_over (by kernel_rfl) (by kernel_rfl) (fun ov => ?_); have ov0 := fun x => ov x (b) (by (try simp) <;> omega); have ov1 := fun x => ov x (b') (by (try simp) <;> omega); clear ov; (iterate 9 (iterate 8 (try go_big_quiet_step (first | (go_at_call 82; with_reducible exact callsOver (eqBox_b (HSV.out.below (over_below _ _)) (HSU.out.below (over_below _ _)) hd)))))); refine wpQuiet_nil ?_; intro w9 hw9; have hb_w9 := below_over hw9; clear hw9 ov0 ov1
          have hb10 : Below w.heap.size w w9 := hbr.trans (hb_w9.mono hzr)
          clear hb_w9
          go_wp2
          go_ret
          exact ⟨ret_bool HE.out.symm, hb10⟩
      · have HE := Lib.hid (show decide (xs = ys) = true from decide_eq_true (by
          have hkn : k = n := by omega
          have := HQ.out
          rw [hkn] at this
          rwa [List.take_of_length_le (by rw [HN.out]; exact Nat.le_refl _), List.take_of_length_le (by rw [HM.out]; exact Nat.le_refl _)] at this))
        go_wp2
        go_ret
        exact ⟨ret_bool HE.out.symm, hbr⟩
  · have HN := Lib.hid (decide_eq_false (fun h : xs = ys => hne (by rw [h])))
    have hb : ((xs.length : Int) == (ys.length : Int)) = false := by simpa using (by omega : (xs.length : Int) ≠ ys.length)
    clear hne
    go_enter Tryd.func24, Tryd.ntmps24
    go_wp2
    go_ret
    exact ⟨ret_bool HN.out.symm, by (repeat' (first | with_reducible exact Below.refl _ _ | with_reducible assumption | with_reducible refine Below.setCell ?_ ?_ _ | with_reducible refine Below.alloc ?_ ?_ _ | with_reducible refine Below.drew ?_ | with_reducible refine belDrewN ?_ _ | with_reducible refine Below.trans ?_ (Below.mono (by assumption) ?_) | omega | (simp; omega) | (simp; done)))⟩
theorem eqBoxS_b {lo lo' : Nat} {xs ys : List Bx} {v u : Value} {w : World} {r : Bool} (hs : Bxs lo w v xs) (hu : Bxs lo' w u ys) (h : decide (xs = ys) = r) :
    Calls Tryd.prog 24 #[v, u] w fun e w' => e = .returned (.bool r) ∧ Below w.heap.size w w' := by
  subst h
  exact eqBoxS_any xs ys v u w hs hu
def bscnt : List Bx → Nat := gcnt bxcnt
def bsmark : Nat → List Bx → List Bx := gmark bxcnt bxmark
theorem bscnt_succ {fs : List Bx} {k : Nat} {f : Bx} (h : fs[k]? = some f) : bscnt (fs.take (k + 1)) = bscnt (fs.take k) + bxcnt f := gcnt_succ h
theorem bscnt_at {fs : List Bx} {k : Nat} {f : Bx} (h : fs[k]? = some f) : bscnt (fs.take k) + bxcnt f ≤ bscnt fs := gcnt_at h
theorem bsmark_step {fs : List Bx} {k m : Nat} {f : Bx} (h : fs[k]? = some f) : (bsmark m (fs.take k) ++ fs.drop k).set k (bxmark (m + bscnt (fs.take k)) f) = bsmark m (fs.take (k + 1)) ++ fs.drop (k + 1) := gmark_step h
theorem bsmark_cur {fs : List Bx} {k m : Nat} {f : Bx} (h : fs[k]? = some f) : (bsmark m (fs.take k) ++ fs.drop k)[k]? = some f := gmark_cur h
theorem bsmark_len (m : Nat) (fs : List Bx) : (bsmark m fs).length = fs.length := gmark_len m fs
theorem bsmark_get {fs : List Bx} {k m : Nat} {f : Bx} (h : fs[k]? = some f) : (bsmark m fs)[k]? = some (bxmark (m + bscnt (fs.take k)) f) := gmark_get h
theorem bscnt_full {fs : List Bx} {n : Nat} (h : fs.length = n) : bscnt (fs.take n) = bscnt fs := by rw [List.take_of_length_le (by omega)]
theorem bsmark_full {fs : List Bx} {m n : Nat} (h : fs.length = n) : bsmark m (fs.take n) ++ fs.drop n = bsmark m fs := by rw [List.take_of_length_le (by omega), List.drop_of_length_le (by omega), List.append_nil]
set_option maxHeartbeats 2000000 in
theorem markBoxS_any (lo hi : Nat) (fs : List Bx) (v : Value) (m : Nat) (w : World) (ho : GBs w lo hi v fs) (hh : hi ≤ w.heap.size) (hN : m + bscnt fs ≤ 8388608) (he : ∀ (k : Nat) f, fs[k]? = some f → ∀ (j : Nat) xs, f[j]? = some xs → xs.length ≤ 1048576) :
    Calls Tryd.prog 25 #[v, .int .i64 (m : Int)] w fun e w' => e = .returned (.int .i64 ((m + bscnt fs : Nat) : Int)) ∧ GBs w' lo hi v (bsmark m fs) ∧ Chg lo hi w w' := by
  obtain ⟨a, cap, rfl, hlc, hcm⟩ := ho.form
  unfold maxLen at hcm
  generalize hn : fs.length = n at *
  have HN := Lib.hid hn
  have HE := Lib.hid he
  have HG0 := Lib.hid ho
  clear hn he ho
  go_enter Tryd.func25, Tryd.ntmps25
  go_wp2_with fail
  go_loopw [1, 5] (fun q i wr => ∃ k : Nat, k ≤ n ∧ i = .int .i64 k ∧ q = .int .i64 ((m + bscnt (fs.take k) : Nat) : Int) ∧ Hid (GBs wr lo hi (.slice a n cap) (bsmark m (fs.take k) ++ fs.drop k)) ∧ Chg lo hi w wr) (fun _ i _ => n - (intOf i).toNat)
  case atStart => exact ⟨0, by omega, rfl, rfl, Lib.hid HG0.out, Chg.refl _ _ _⟩
  case round =>
    obtain ⟨k, hk, rfl, rfl, HG, hc⟩ := hrel
    have hzr := hc.below.size
    by_cases hlt : k < n
    · have i1 : (k : Int) < (n : Int) := by omega
      have i2 : (0 : Int) ≤ (k : Int) := by omega
      obtain ⟨f, hx⟩ : ∃ f, fs[k]? = some f := ⟨_, List.getElem?_eq_getElem (by rw [HN.out]; exact hlt)⟩
      have HX := Lib.hid hx
      obtain ⟨g, cap', r, l, mm, hv, hl1, hl2, hl3, hp, hcell, hg1, hg2, hg3, hfz, hgo, hre, -⟩ := OwnG.elem (sz := 1) (enc := enc1) (fun _ => rfl) GRw.kind HG.out (bsmark_cur hx)
      obtain ⟨rfl, -, rfl⟩ := Value.slice.inj hv
      have c0 := hcell 0 _ rfl
      simp only [Nat.mul_one, Nat.add_zero] at c0
      have hcn := bscnt_at hx
      have hcs := bscnt_succ hx
      obtain ⟨mk, hmk⟩ : ∃ mk, m + bscnt (fs.take k) = mk := ⟨_, rfl⟩
      rw [hmk]
      have hmk2 : mk + bxcnt f ≤ 8388608 := by omega
      have HRE := Lib.hid hre
      have HP := Lib.hid hp
      have HM := Lib.hid (show mk + bxcnt f = m + bscnt (fs.take (k + 1)) by omega)
      have HEF := Lib.hid (HE.out k f hx)
      clear hre hp hcell hcn hcs hx hv hfz
      go_wp2_with fail
      refine (markSpanSS_any l mm f r mk wr HP.out (by omega) hmk2 HEF.out).mono ?_
      rintro e w2 ⟨rfl, ho2, hc2⟩
      have HG2 := Lib.hid (HRE.out w2 (bxmark mk f) hc2 ho2)
      have hcw : Chg lo hi w w2 := hc.trans (hc2.wide hl1 hl3)
      clear ho2 hc2
      go_wp2
      go_roundw
      case rel =>
        refine ⟨k + 1, by omega, by go_num, by have := HM.out; exact congrArg (Value.int .i64) (by omega), Lib.hid ?_, hcw⟩
        have h := HG2.out
        have hst := bsmark_step (m := m) HX.out
        rw [hmk] at hst
        rw [hst] at h
        exact h
      case measure => simp [intOf]; omega
    · have hkn : k = n := by omega
      subst hkn
      have HR := Lib.hid HG.out
      go_wp2
      go_ret
      refine ⟨ret_int (by rw [bscnt_full HN.out]), ?_, hc⟩
      have := HR.out
      rwa [bsmark_full HN.out] at this
set_option maxHeartbeats 1000000 in
theorem heldBoxS_any {lo : Nat} (fs : List Bx) (v : Value) (m : Nat) (w : World) (hs : Bxs lo w v (bsmark m fs)) (hN : m + bscnt fs ≤ 8388608) (he : ∀ (k : Nat) f, fs[k]? = some f → ∀ (j : Nat) xs, f[j]? = some xs → xs.length ≤ 1048576) :
    Calls Tryd.prog 26 #[v, .int .i64 (m : Int)] w fun e w' => e = .returned (.int .i64 ((m + bscnt fs : Nat) : Int)) ∧ w = w' := by
  obtain ⟨a, cap, rfl, hlc, hcm⟩ := hs.form
  unfold maxLen at hcm
  rw [bsmark_len] at hs hlc ⊢
  generalize hn : fs.length = n at *
  have HN := Lib.hid hn
  have HE := Lib.hid he
  have HS := Lib.hid hs
  clear hn he hs
  go_enter Tryd.func26, Tryd.ntmps26
  go_wp2_with fail
  go_loop [1, 5] (fun q i => ∃ k : Nat, k ≤ n ∧ i = .int .i64 k ∧ q = .int .i64 ((m + bscnt (fs.take k) : Nat) : Int)) (fun _ i => n - (intOf i).toNat)
  case atStart => exact ⟨0, by omega, rfl, rfl⟩
  case round =>
    obtain ⟨k, hk, rfl, rfl⟩ := hrel
    by_cases hlt : k < n
    · have i1 : (k : Int) < (n : Int) := by omega
      have i2 : (0 : Int) ≤ (k : Int) := by omega
      obtain ⟨f, hx⟩ : ∃ f, fs[k]? = some f := ⟨_, List.getElem?_eq_getElem (by rw [HN.out]; exact hlt)⟩
      obtain ⟨b', o, sv, rfl, hbl, c0, hsv⟩ := HS.out.at (bsmark_get hx)
      have hcn := bscnt_at hx
      have hcs := bscnt_succ hx
      obtain ⟨mk, hmk⟩ : ∃ mk, m + bscnt (fs.take k) = mk := ⟨_, rfl⟩
      simp only [hmk] at hsv
      rw [hmk]
      have hmk2 : mk + bxcnt f ≤ 8388608 := by omega
      have HSV := Lib.hid hsv
      have HM := Lib.hid (show mk + bxcnt f = m + bscnt (fs.take (k + 1)) by omega)
      have HEF := Lib.hid (HE.out k f hx)
      clear hcn hcs hx hsv
      go_wp2_with fail
      refine (heldSpanSS_any f sv mk _ HSV.out hmk2 HEF.out).mono ?_
      rintro e w2 ⟨rfl, rfl⟩
      have hp0 : ¬ ((mk + bxcnt f : Nat) : Int) < 0 := by omega
      go_wp2
      all_goals first | (exfalso; omega) | skip
      go_round
      case rel => exact ⟨k + 1, by omega, by go_num, by have := HM.out; exact congrArg (Value.int .i64) (by omega)⟩
      case measure => simp [intOf]; omega
    · have hkn : k = n := by omega
      subst hkn
      go_wp2
      go_ret
      exact ⟨ret_int (by rw [bscnt_full HN.out]), rfl⟩
theorem bs_he {bs : List Bx} (h : ∀ z ∈ bs, bvalid z = true) : ∀ (k : Nat) f, bs[k]? = some f → ∀ (j : Nat) xs, f[j]? = some xs → xs.length ≤ 1048576 :=
  fun k f hf j xs hx => by have := bvalid_lens (h f (List.mem_of_getElem? hf)) j xs hx; omega
theorem bs_le {bs : List Bx} (h : ∀ z ∈ bs, bvalid z = true) (hl : bs.length ≤ 400) : 1 + bscnt bs ≤ 8388608 := by
  have h1 : bscnt bs ≤ bs.length * 320 := gcnt_bound bs (fun k f hf => by
    have hb := h f (List.mem_of_getElem? hf)
    have h2 : bxcnt f ≤ f.length * 80 := gcnt_bound f (fun j xs hx => by have := bvalid_lens hb j xs hx; omega)
    rw [(bvalid_four hb).1] at h2
    omega)
  omega
set_option maxHeartbeats 2000000 in
set_option maxRecDepth 100000 in
theorem boxesOf_own {lo : Nat} (bs : List Bx) (v : Value) (w : World) (hs : Iss lo w v bs) (hl : bs.length ≤ 1000000) (hle : ∀ (k : Nat) b, bs[k]? = some b → ∀ (j : Nat) xs, b[j]? = some xs → xs.length ≤ 1000000) :
    Calls Tryd.prog 81 #[v] w fun e w' => ∃ v', e = .returned v' ∧ GBs w' w.heap.size w'.heap.size v' bs ∧ Below w.heap.size w w' := by
  obtain ⟨a, cap, rfl, hlc, hcm⟩ := hs.form
  unfold maxLen at hcm
  generalize hn : bs.length = n at *
  have HN := Lib.hid hn
  have HS := Lib.hid hs
  have HLE := Lib.hid hle
  obtain ⟨i0, hi, hy0, hy1, hy2⟩ := info_parts infoBx
  clear hn hs hle
  go_enter Tryd.func81, Tryd.ntmps81
  go_wp2_with (at_make; refine wpList_make_own _ rfl _ _ 30 rfl w.heap.size 58 i0 _ 1 Tryd.underlying30 hi hy0 hy1 _ _ _ n rfl rfl rfl ?b1 ?b2 ?b3 ?_)
  case b1 => rw [hy2]; omega
  case b2 => simp only [maxLen]; omega
  case b3 => omega
  intro w1 hown1 hgrow1
  have hb1 : Below w.heap.size w w1 := (Below.refl _ _).grown hgrow1 (Nat.le_refl _) (fun k hk => by cases hk)
  have HO1 := Lib.hid (show OwnSl w.heap.size 58 1 enc1 w1 (.slice (some ⟨w.heap.size, 0, none⟩) 0 n) ([] : List Value) by simpa [OwnSl] using hown1)
  clear hown1 hgrow1
  go_wp2_with fail
  go_loopw [3, 5, 11] (fun o _ i wr => ∃ (k : Nat) (rs : List Value), k ≤ n ∧ i = .int .i64 k ∧ OwnSl w.heap.size 58 1 enc1 wr o rs ∧ Hid (∀ z, o.ownBlock = some z → z < wr.heap.size) ∧ Hid (OwnD (fun l h y z => GRw wr l h y z ∧ Off o.ownBlock l h) w.heap.size wr.heap.size rs (bs.take k)) ∧ Below w.heap.size w wr) (fun _ _ i _ => n - (intOf i).toNat)
  case atStart => exact ⟨0, [], by omega, rfl, HO1.out, Lib.hid (fun z hz => (World.ownsRow.lt HO1.out z hz).2), Lib.hid hb1.size, hb1⟩
  case round =>
    obtain ⟨k, rs, hk, rfl, hO, HX, HD, hbr⟩ := hrel
    have HO := Lib.hid hO
    clear hO HO1 hb1
    have hzr := hbr.size
    by_cases hlt : k < n
    · have i1 : (k : Int) < (n : Int) := by omega
      have i2 : (0 : Int) ≤ (k : Int) := by omega
      obtain ⟨f, hx⟩ : ∃ f, bs[k]? = some f := ⟨_, List.getElem?_eq_getElem (by rw [HN.out]; exact hlt)⟩
      obtain ⟨b, o, v0, v1, v2, v3, rfl, hbl, c0, c1, c2, c3, hss⟩ := (HS.out.below hbr).at hx
      obtain ⟨a0, n0, p0, a1, n1, p1, a2, n2, p2, a3, n3, p3, rfl, rfl, rfl, rfl⟩ := sl4_form hss
      have HXX := Lib.hid hx
      have HSS := Lib.hid hss
      have HLF := Lib.hid (HLE.out k f hx)
      have HBD := Lib.hid (show rs.length ≤ 1000000 by have := HD.out.len; rw [List.length_take] at this; omega)
      clear hx hss
      have hal4 : Below wr.heap.size wr (wr.alloc (.cells #[.slice a0 n0 p0, .slice a1 n1 p1, .slice a2 n2 p2, .slice a3 n3 p3] 132)) := (Below.refl _ _).alloc (Nat.le_refl _) _
      go_wp2_with fail
      refine (box_any f _ _ _ _ wr _ HSS.out hal4 HLF.out).mono ?_
      rintro e w4 ⟨v4, rfl, ho4, hb4⟩
      have hw4 : Below wr.heap.size wr w4 := hal4.trans (hb4.mono hal4.size)
      have hz4 := hw4.size
      have hz5 := hb4.size
      simp only [World.size_alloc] at ho4 hz5
      obtain ⟨va4, vc4, rfl, -, -⟩ := ho4.rws.form
      have HG4 := Lib.hid (show GRw w4 wr.heap.size w4.heap.size _ f from (OwnRw.mono ho4 (by omega) (Nat.le_refl _)).g)
      have HW4 := Lib.hid hw4
      clear ho4 hb4
      go_wp2_with (at_builtin; refine wpList_append_lies _ rfl _ _ 30 rfl w.heap.size 58 i0 _ 1 24 Tryd.underlying30 hi hy0 hy1 hy2 rfl (by decide) _ rs.length (rs.flatMap enc1) rfl (World.ownsRow.alloc (OwnSl.kept HO.out HW4.out) _) ⟨w4.heap.size, 0, none⟩ 1 1 (enc1 (.slice va4 f.length vc4)) rfl rfl (cellsNew w4 (enc1 (.slice va4 f.length vc4)) _) ?c2 (by decide) ?c3 ?c4 ?c5 _ rfl ?_)
      case c2 => simp [Value.oneCell']
      case c3 => have := HBD.out; simp only [maxLen]; omega
      case c4 => have := HBD.out; omega
      case c5 => simp; omega
      intro g8 cap8 w8 hown8 hgrow8 hlies8 hlt8
      have hown9 : OwnSl w.heap.size 58 1 enc1 w8 (.slice (some ⟨g8, 0, none⟩) (rs.length + 1) cap8) (rs ++ [.slice va4 f.length vc4]) := by unfold OwnSl; simpa using hown8
      have hp8 := OwnG.push (P := GRw) (e := 58) (sz := 1) (enc := enc1) GRw.kind (w := wr) (w1 := w4) HD.out HX.out (by omega) HW4.out HG4.out (grown_old hgrow8) hown9 hlies8 hlt8 (by simp)
      have hB8 : Below w.heap.size w w8 := belGrown ((hbr.trans (HW4.out.mono hzr)).alloc (by omega) _) (World.ownsRow.alloc (OwnSl.kept HO.out HW4.out) _) hgrow8 (by simp; omega)
      have HP8 := Lib.hid hp8
      clear hown8 hgrow8 hlies8 hlt8 hown9 hp8
      go_wp2
      go_roundw
      case rel =>
        obtain ⟨vs6, ho6, hv6, hl6, hd6⟩ := HP8.out
        refine ⟨k + 1, vs6, by omega, by go_num, ho6, Lib.hid hv6, Lib.hid ?_, hB8⟩
        rw [List.take_add_one, HXX.out]
        exact hd6
      case measure => simp [intOf]; omega
    · have hkn : k = n := by omega
      go_wp2
      go_ret
      refine ⟨u3, rfl, ⟨rs, HO.out, HX.out, hzr, ?_⟩, hbr⟩
      have := HD.out
      rwa [List.take_of_length_le (by rw [HN.out]; omega)] at this
theorem fboxes_len (fs : List Ft) : (fboxes fs).length = fs.length := by simp [fboxes]
theorem fboxes_take (fs : List Ft) (k : Nat) : fboxes (fs.take k) = (fboxes fs).take k := by simp [fboxes, List.map_take]
theorem fboxes_valid {fs : List Ft} (h : fvalid fs = true) : ∀ z ∈ fboxes fs, bvalid z = true := by
  intro z hz
  unfold fboxes at hz
  obtain ⟨f, hf, rfl⟩ := List.mem_map.1 hz
  obtain ⟨k, hk⟩ := List.getElem?_of_mem hf
  exact fvalid_at h hk
theorem fvalid_take {fs : List Ft} (h : fvalid fs = true) (k : Nat) : fvalid (fs.take k) = true := fvalid_sub h (List.length_take_le' _ _) (fun _ hg => List.mem_of_mem_take hg)
/-- What the rules before rule k leave of its box. -/
def livek (fs : List Ft) (k : Nat) : Option (List Bx) := match fs[k]? with
  | some f => blessB f.box (fboxes (fs.take k))
  | none => none
def livep (fs : List Ft) (n : Int) : Option (List Bx) := if fvalid fs && inB n 0 ((fs.length : Int) - 1) then livek fs n.toNat else none
def livef (fs : List Ft) (n : Int) : List Bx := (livep fs n).getD []
theorem blessB_valid {b : Bx} {xs ys : List Bx} (hb : bvalid b = true) (h : blessB b xs = some ys) : rvalid ys = true := bless_valid (bstart_valid hb) h
theorem livek_valid {fs : List Ft} (hv : fvalid fs = true) {k : Nat} {ys : List Bx} (h : livek fs k = some ys) : rvalid ys = true := by
  unfold livek at h
  cases hx : fs[k]? with
  | none => rw [hx] at h; cases h
  | some f => rw [hx] at h; exact blessB_valid (fvalid_at hv hx) h
theorem livep_valid {fs : List Ft} {n : Int} {ys : List Bx} (h : livep fs n = some ys) : rvalid ys = true := by
  unfold livep at h
  split at h
  · rename_i hc
    rw [Bool.and_eq_true] at hc
    exact livek_valid hc.1 h
  · cases h
theorem livef_good (fs : List Ft) (n : Int) : (∀ z ∈ livef fs n, bvalid z = true) ∧ (livef fs n).length ≤ 400 := by
  unfold livef
  cases h : livep fs n with
  | none => simp
  | some ys =>
    obtain ⟨h1, h2⟩ := rvalid_all (livep_valid h)
    exact ⟨h2, h1⟩
theorem livep_no {fs : List Ft} {n : Int} (h : fvalid fs = false ∨ n < 0 ∨ (fs.length : Int) ≤ n) : livep fs n = none := by
  unfold livep
  rw [if_neg]
  rw [Bool.and_eq_true, inB_iff]
  rintro ⟨h1, h2⟩
  rcases h with h | h | h
  · rw [h1] at h; cases h
  · omega
  · omega
theorem livep_yes {fs : List Ft} {k : Nat} (hv : fvalid fs = true) (h : k < fs.length) : livep fs (k : Int) = livek fs k := by
  unfold livep
  rw [if_pos, Int.toNat_natCast]
  rw [Bool.and_eq_true, inB_iff]
  exact ⟨hv, by omega, by omega⟩
/-- Rule k decides about nothing. -/
def deadk (fs : List Ft) (k : Nat) : Bool := match livek fs k with
  | some [] => true
  | _ => false
def deadl (fs : List Ft) : Nat → List Int
  | 0 => []
  | k + 1 => deadl fs k ++ (if deadk fs k then [(k : Int)] else [])
def deads (fs : List Ft) : List Int := if fvalid fs then deadl fs fs.length else []
def dropl (fs : List Ft) : Nat → List Ft
  | 0 => []
  | k + 1 => dropl fs k ++ (if deadk fs k then [] else (fs[k]?).toList)
def dropd (fs : List Ft) : List Ft := if fvalid fs then dropl fs fs.length else []
theorem deadk_iff {fs : List Ft} {k : Nat} : deadk fs k = true ↔ livek fs k = some [] := by
  unfold deadk
  split <;> simp_all
theorem deadk_of {fs : List Ft} {k : Nat} {o : Option (List Bx)} (h : livek fs k = o) : deadk fs k = (o.isSome && (o.getD []).isEmpty) := by
  unfold deadk
  rw [h]
  cases o with
  | none => rfl
  | some ys => cases ys <;> rfl
theorem deadl_len (fs : List Ft) : ∀ n, (deadl fs n).length ≤ n
  | 0 => Nat.le_refl _
  | n + 1 => by
    have := deadl_len fs n
    simp only [deadl, List.length_append]
    split <;> simp <;> omega
theorem deads_len (fs : List Ft) : (deads fs).length ≤ 1000 := by
  unfold deads
  split
  · rename_i h
    have := fvalid_60 h
    have := deadl_len fs fs.length
    omega
  · simp
theorem dropl_mem (fs : List Ft) : ∀ n, ∀ g ∈ dropl fs n, g ∈ fs
  | 0, g, hg => by simp [dropl] at hg
  | n + 1, g, hg => by
    simp only [dropl, List.mem_append] at hg
    rcases hg with hg | hg
    · exact dropl_mem fs n g hg
    · split at hg
      · simp at hg
      · cases hx : fs[n]? with
        | none => rw [hx] at hg; simp at hg
        | some f => rw [hx] at hg; simp at hg; subst hg; exact List.mem_of_getElem? hx
theorem dropl_len (fs : List Ft) : ∀ n, n ≤ fs.length → (dropl fs n).length + (deadl fs n).length = n
  | 0, _ => rfl
  | n + 1, h => by
    have ih := dropl_len fs n (by omega)
    simp only [dropl, deadl, List.length_append]
    rw [List.getElem?_eq_getElem (by omega : n < fs.length)]
    split <;> simp <;> omega
theorem dropd_valid (fs : List Ft) : fvalid (dropd fs) = true := by
  unfold dropd
  split
  · rename_i h
    have := dropl_len fs fs.length (Nat.le_refl _)
    exact fvalid_sub h (by omega) (dropl_mem fs _)
  · rfl
theorem any_boxes (fs : List Ft) (p : Pk) : (fboxes fs).any (fun z => bhas z p) = fs.any (fun f => bhas f.box p) := by
  unfold fboxes
  rw [List.any_map]
  rfl
/-- What is left of a rule's box is what the rule decides. -/
theorem live_has {fs : List Ft} (hv : fvalid fs = true) {k : Nat} {f : Ft} (hx : fs[k]? = some f) {ys : List Bx} (h : livek fs k = some ys) {p : Pk} (hp : p.ok = true) :
    ys.any (fun z => bhas z p) = (bhas f.box p && !(fs.take k).any (fun g => bhas g.box p)) := by
  unfold livek at h
  rw [hx] at h
  rw [blessB_has (fvalid_at hv hx) (fboxes_valid (fvalid_take hv k)) h hp, any_boxes]
theorem any_take_no {fs : List Ft} {p : Pk} {k : Nat} : (fs.take k).any (fun g => bhas g.box p) = false ↔ ∀ (i : Nat) g, i < k → fs[i]? = some g → bhas g.box p = false := by
  rw [List.any_eq_false]
  constructor
  · intro h i g hi hg
    simpa using h g (List.mem_of_getElem? (by rw [List.getElem?_take_of_lt hi]; exact hg) : g ∈ fs.take k)
  · intro h g hg
    obtain ⟨i, hi⟩ := List.getElem?_of_mem hg
    have hik : i < k := by
      have := (List.getElem?_eq_some_iff.1 hi).1
      rw [List.length_take] at this
      omega
    rw [List.getElem?_take_of_lt hik] at hi
    simpa using h i g hik hi
theorem dby_at {fs : List Ft} {p : Pk} (hv : fvalid fs = true) (hp : p.ok = true) {k : Nat} {f : Ft} (hx : fs[k]? = some f) :
    decide (dby fs p = (k : Int)) = (bhas f.box p && !(fs.take k).any (fun g => bhas g.box p)) := by
  cases hA : (fs.take k).any (fun g => bhas g.box p)
  · cases hB : bhas f.box p
    · rcases dby_cases fs p false with ⟨h, _⟩ | ⟨j, g, h1, h2, _, _, h3, _, _⟩
      · rw [h]; simp
      · rw [h2]
        simp only [Bool.false_and, decide_eq_false_iff_not]
        intro e
        have : j = k := by omega
        subst this
        rw [hx] at h1; cases h1
        rw [hB] at h3; cases h3
    · have hn := any_take_no.1 hA
      have : dby fs p = ((0 + k : Nat) : Int) := by
        unfold dby
        rw [hv, hp]
        simp only [Bool.and_self, if_true]
        exact fwith_hit fs k 0 f hn hx hB
      rw [this]; simp
  · rcases dby_cases fs p false with ⟨h, _⟩ | ⟨j, g, h1, h2, _, _, h3, h4, _⟩
    · rw [h]; simp
    · rw [h2]
      simp only [Bool.not_true, Bool.and_false, decide_eq_false_iff_not]
      intro e
      have : j = k := by omega
      subst this
      rw [any_take_no.2 h4] at hA; cases hA
theorem live_dby {fs : List Ft} (hv : fvalid fs = true) {k : Nat} {f : Ft} (hx : fs[k]? = some f) {ys : List Bx} (h : livek fs k = some ys) {p : Pk} (hp : p.ok = true) :
    ys.any (fun z => bhas z p) = decide (dby fs p = (k : Int)) := by rw [live_has hv hx h hp, dby_at hv hp hx]
theorem dead_no {fs : List Ft} (hv : fvalid fs = true) {k : Nat} (hk : k < fs.length) (h : deadk fs k = true) (p : Pk) : dby fs p ≠ (k : Int) := by
  cases hp : p.ok
  · unfold dby
    rw [hp]
    simp only [Bool.and_false, Bool.false_eq_true, if_false]
    omega
  · have := live_dby hv (List.getElem?_eq_getElem hk) (deadk_iff.1 h) hp
    simp at this
    exact this
/-- Without the dead rules every packet is decided as before. -/
theorem jw_append (p : Pk) (r : Bool) : ∀ (xs ys : List Ft), jw (xs ++ ys) r p = if xs.any (fun f => bhas f.box p) then jw xs r p else jw ys r p
  | [], ys => rfl
  | x :: xs, ys => by
    rw [List.cons_append, List.any_cons]
    simp only [jw]
    rw [jw_append p r xs ys]
    cases bhas x.box p <;> simp
theorem take_any_succ {fs : List Ft} {p : Pk} {n : Nat} {f : Ft} (h : fs[n]? = some f) : (fs.take (n + 1)).any (fun f => bhas f.box p) = ((fs.take n).any (fun f => bhas f.box p) || bhas f.box p) := by
  rw [List.take_add_one, h, List.any_append]; simp
theorem dropl_jw {fs : List Ft} (hv : fvalid fs = true) {p : Pk} (hp : p.ok = true) (r : Bool) : ∀ n, n ≤ fs.length →
    (dropl fs n).any (fun f => bhas f.box p) = (fs.take n).any (fun f => bhas f.box p) ∧ jw (dropl fs n) r p = jw (fs.take n) r p
  | 0, _ => by simp [dropl]
  | n + 1, h => by
    obtain ⟨ih1, ih2⟩ := dropl_jw hv hp r n (by omega)
    obtain ⟨f, hx⟩ : ∃ f, fs[n]? = some f := ⟨_, List.getElem?_eq_getElem (by omega)⟩
    have hj : jw (fs.take (n + 1)) r p = if (fs.take n).any (fun f => bhas f.box p) then jw (fs.take n) r p else jw [f] r p := by
      rw [List.take_add_one, hx, Option.toList_some, jw_append]
    rw [take_any_succ hx, hj]
    simp only [dropl]
    rw [List.any_append, jw_append, ih1, ih2, hx]
    cases hd : deadk fs n
    · simp
    · have hl := live_has hv hx (deadk_iff.1 hd) hp
      simp only [List.any_nil] at hl
      cases hA : (fs.take n).any (fun f => bhas f.box p)
      · rw [hA] at hl
        have hl : bhas f.box p = false := by simpa using hl.symm
        simp [jw, hl]
      · simp
theorem dropd_jfl {fs : List Ft} (hv : fvalid fs = true) (r : Bool) (p : Pk) : jfl (dropd fs) r p = jfl fs r p := by
  unfold jfl
  rw [dropd_valid, hv]
  cases hp : p.ok
  · rfl
  · have := (dropl_jw hv hp r fs.length (Nat.le_refl _)).2
    rw [List.take_length] at this
    unfold dropd
    rw [hv]
    simp [this]
theorem dropd_len {fs : List Ft} (hv : fvalid fs = true) : (dropd fs).length = fs.length - (deads fs).length := by
  have := dropl_len fs fs.length (Nat.le_refl _)
  unfold dropd deads
  rw [hv]
  simp only [if_true]
  omega
end Go.Proofs.YtibanpeiigbofaaDoor
