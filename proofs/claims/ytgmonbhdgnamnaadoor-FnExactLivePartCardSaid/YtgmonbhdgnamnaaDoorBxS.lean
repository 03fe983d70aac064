/- Lists of boxes in the exact laws: comparing, marking, copies of the call's own. -/
import Derived.Test.YtgmonbhdgnamnaaDoorDxB
import Derived.Test.YtgmonbhdgnamnaaDoorFnM
import Derived.Test.YtgmonbhdgnamnaaDoorFtW
namespace Go.Proofs.YtgmonbhdgnamnaaDoor
open Go.RowKit
/-- Boxes of the call's own. -/
def GBs : World → Nat → Nat → Value → List Bx → Prop := OwnG 28 1 enc1 GRw
theorem GBs.kind : Kind GBs := OwnG.kind GRw.kind
theorem GBs.bxs {w : World} {lo hi : Nat} {v : Value} {bs : List Bx} (h : GBs w lo hi v bs) : Bxs lo w v bs := by
  obtain ⟨vs, h1, h2, h3, h4⟩ := h
  exact ⟨vs, OwnSl.fr (sz := 1) (enc := enc1) (fun _ => rfl) h1, h4.all2 (GRw.kind.leO w _) (fun l m x y g1 _ g3 => Rws.mono g3.1.rws g1)⟩
theorem GBs.form {w : World} {lo hi : Nat} {v : Value} {bs : List Bx} (h : GBs w lo hi v bs) : ∃ a cap, v = .slice a bs.length cap ∧ bs.length ≤ cap ∧ cap ≤ maxLen := Bxs.form h.bxs
theorem GBs.nil (w : World) {lo hi : Nat} (h : lo ≤ hi) : GBs w lo hi (.slice none 0 0) [] := ⟨[], World.ownsRow_nil _ _ _ _, (fun z hz => by cases hz), h, h⟩
set_option maxHeartbeats 2000000 in
theorem eqBoxS_any {lo lo' : Nat} (xs ys : List Bx) (v u : Value) (w : World) (hs : Bxs lo w v xs) (hu : Bxs lo' w u ys) :
    Calls Tryd.prog 40 #[v, u] w fun e w' => e = .returned (.bool (decide (xs = ys))) ∧ Below w.heap.size w w' := by
  obtain ⟨a, cap, rfl, hlc, hcm⟩ := hs.form
  obtain ⟨a', cap', rfl, hlc', hcm'⟩ := hu.form
  unfold maxLen at hcm hcm'
  by_cases hne : xs.length = ys.length
  · have hm : ys.length = xs.length := hne.symm
    rw [hm] at hu hlc' ⊢
    generalize hn : xs.length = n at *
    have HN := Lib.hid hn
    have HM := Lib.hid hm
    clear hn hm hne
    go_enter Tryd.func40, Tryd.ntmps40
    go_wp2_with fail
    go_loopw [5] (fun i wr => ∃ k : Nat, k ≤ n ∧ i = .int .i64 k ∧ xs.take k = ys.take k ∧ Below w.heap.size w wr) (fun i _ => n - (intOf i).toNat)
    case atStart => exact ⟨0, by omega, rfl, rfl, Below.refl _ _⟩
    case round =>
      obtain ⟨k, hk, rfl, hq, hbr⟩ := hrel
      have HQ := Lib.hid hq; clear hq
      have hs2 := hs.below hbr
      have hu2 := hu.below hbr
      have hzr := hbr.size
      by_cases hlt : k < n
      · obtain ⟨x, hx⟩ : ∃ x, xs[k]? = some x := ⟨_, List.getElem?_eq_getElem (by rw [HN.out]; exact hlt)⟩
        obtain ⟨y, hy⟩ : ∃ y, ys[k]? = some y := ⟨_, List.getElem?_eq_getElem (by rw [HM.out]; exact hlt)⟩
        obtain ⟨b, o, sv, rfl, hbl, c0, hsv⟩ := hs2.at hx
        obtain ⟨b', o', su, rfl, hbl', d0, hsu⟩ := hu2.at hy
        have HX := Lib.hid hx; have HY := Lib.hid hy
        have HSV := Lib.hid hsv; have HSU := Lib.hid hsu
        clear hx hy hsv hsu
        have i1 : (k : Int) < (n : Int) := by omega
        have i2 : (0 : Int) ≤ (k : Int) := by omega
        by_cases he : x = y
        · have HE := Lib.hid he; clear he
          have hd := decide_eq_true HE.out
          go_wp2_with fail
          refine wp_region_over (by kernel_rfl) (by kernel_rfl) (fun ov => ?_); have ov0 := fun x => ov x (b) (by (try simp) <;> omega); have ov1 := fun x => ov x (b') (by (try simp) <;> omega); clear ov; (iterate 9 (iterate 8 (try go_big_quiet_step (first | (go_at_call 16; with_reducible exact callsOver (eqBox_b (HSV.out.below (over_below _ _)) (HSU.out.below (over_below _ _)) hd)))))); refine wpQuiet_nil ?_; intro w9 hw9; have hb_w9 := below_over hw9; clear hw9 ov0 ov1
          have hb10 : Below w.heap.size w w9 := hbr.trans (hb_w9.mono hzr)
          clear hb_w9
          go_wp2
          go_roundw
          case rel => exact ⟨k + 1, by omega, by go_num, take_eq_succ HQ.out HX.out HY.out HE.out, hb10⟩
          case measure => simp [intOf]; omega
        · have HE := Lib.hid (show decide (xs = ys) = false from decide_eq_false (fun h => he (by have h1 := HX.out; have h2 := HY.out; rw [h, h2] at h1; exact (Option.some.inj h1).symm)))
          have hd := decide_eq_false he
          clear he
          go_wp2_with fail
          refine wp_region_over (by kernel_rfl) (by kernel_rfl) (fun ov => ?_); have ov0 := fun x => ov x (b) (by (try simp) <;> omega); have ov1 := fun x => ov x (b') (by (try simp) <;> omega); clear ov; (iterate 9 (iterate 8 (try go_big_quiet_step (first | (go_at_call 16; with_reducible exact callsOver (eqBox_b (HSV.out.below (over_below _ _)) (HSU.out.below (over_below _ _)) hd)))))); refine wpQuiet_nil ?_; intro w9 hw9; have hb_w9 := below_over hw9; clear hw9 ov0 ov1
          have hb10 : Below w.heap.size w w9 := hbr.trans (hb_w9.mono hzr)
          clear hb_w9
          go_wp2
          go_ret
          exact ⟨ret_bool HE.out.symm, hb10⟩
      · have HE := Lib.hid (show decide (xs = ys) = true from decide_eq_true (by
          have hkn : k = n := by omega
          have := HQ.out
          rw [hkn] at this
          rwa [List.take_of_length_le (by rw [HN.out]; exact Nat.le_refl _), List.take_of_length_le (by rw [HM.out]; exact Nat.le_refl _)] at this))
        go_wp2
        go_ret
        exact ⟨ret_bool HE.out.symm, hbr⟩
  · have HN := Lib.hid (decide_eq_false (fun h : xs = ys => hne (by rw [h])))
    have hb : ((xs.length : Int) == (ys.length : Int)) = false := by simpa using (by omega : (xs.length : Int) ≠ ys.length)
    clear hne
    go_enter Tryd.func40, Tryd.ntmps40
    go_wp2
    go_ret
    exact ⟨ret_bool HN.out.symm, by (repeat' (first | with_reducible exact Below.refl _ _ | with_reducible assumption | with_reducible refine Below.setCell ?_ ?_ _ | with_reducible refine Below.alloc ?_ ?_ _ | with_reducible refine Below.drew ?_ | with_reducible refine belDrewN ?_ _ | with_reducible refine Below.trans ?_ (Below.mono (by assumption) ?_) | omega | (simp; omega) | (simp; done)))⟩
theorem eqBoxS_b {lo lo' : Nat} {xs ys : List Bx} {v u : Value} {w : World} {r : Bool} (hs : Bxs lo w v xs) (hu : Bxs lo' w u ys) (h : decide (xs = ys) = r) :
    Calls Tryd.prog 40 #[v, u] w fun e w' => e = .returned (.bool r) ∧ Below w.heap.size w w' := by
  subst h
  exact eqBoxS_any xs ys v u w hs hu
def bscnt : List Bx → Nat := gcnt bxcnt
def bsmark : Nat → List Bx → List Bx := gmark bxcnt bxmark
theorem bscnt_succ {fs : List Bx} {k : Nat} {f : Bx} (h : fs[k]? = some f) : bscnt (fs.take (k + 1)) = bscnt (fs.take k) + bxcnt f := gcnt_succ h
theorem bscnt_at {fs : List Bx} {k : Nat} {f : Bx} (h : fs[k]? = some f) : bscnt (fs.take k) + bxcnt f ≤ bscnt fs := gcnt_at h
theorem bsmark_step {fs : List Bx} {k m : Nat} {f : Bx} (h : fs[k]? = some f) : (bsmark m (fs.take k) ++ fs.drop k).set k (bxmark (m + bscnt (fs.take k)) f) = bsmark m (fs.take (k + 1)) ++ fs.drop (k + 1) := gmark_step h
theorem bsmark_cur {fs : List Bx} {k m : Nat} {f : Bx} (h : fs[k]? = some f) : (bsmark m (fs.take k) ++ fs.drop k)[k]? = some f := gmark_cur h
theorem bsmark_len (m : Nat) (fs : List Bx) : (bsmark m fs).length = fs.length := gmark_len m fs
theorem bsmark_get {fs : List Bx} {k m : Nat} {f : Bx} (h : fs[k]? = some f) : (bsmark m fs)[k]? = some (bxmark (m + bscnt (fs.take k)) f) := gmark_get h
theorem bscnt_full {fs : List Bx} {n : Nat} (h : fs.length = n) : bscnt (fs.take n) = bscnt fs := by rw [List.take_of_length_le (by omega)]
theorem bsmark_full {fs : List Bx} {m n : Nat} (h : fs.length = n) : bsmark m (fs.take n) ++ fs.drop n = bsmark m fs := by rw [List.take_of_length_le (by omega), List.drop_of_length_le (by omega), List.append_nil]
set_option maxHeartbeats 2000000 in
theorem markBoxS_any (lo hi : Nat) (fs : List Bx) (v : Value) (m : Nat) (w : World) (ho : GBs w lo hi v fs) (hh : hi ≤ w.heap.size) (hN : m + bscnt fs ≤ 8388608) (he : ∀ (k : Nat) f, fs[k]? = some f → ∀ (j : Nat) xs, f[j]? = some xs → xs.length ≤ 1048576) :
    Calls Tryd.prog 41 #[v, .int .i64 (m : Int)] w fun e w' => e = .returned (.int .i64 ((m + bscnt fs : Nat) : Int)) ∧ GBs w' lo hi v (bsmark m fs) ∧ Chg lo hi w w' := by
  obtain ⟨a, cap, rfl, hlc, hcm⟩ := ho.form
  unfold maxLen at hcm
  generalize hn : fs.length = n at *
  have HN := Lib.hid hn
  have HE := Lib.hid he
  have HG0 := Lib.hid ho
  clear hn he ho
  go_enter Tryd.func41, Tryd.ntmps41
  go_wp2_with fail
  go_loopw [1, 5] (fun q i wr => ∃ k : Nat, k ≤ n ∧ i = .int .i64 k ∧ q = .int .i64 ((m + bscnt (fs.take k) : Nat) : Int) ∧ Hid (GBs wr lo hi (.slice a n cap) (bsmark m (fs.take k) ++ fs.drop k)) ∧ Chg lo hi w wr) (fun _ i _ => n - (intOf i).toNat)
  case atStart => exact ⟨0, by omega, rfl, rfl, Lib.hid HG0.out, Chg.refl _ _ _⟩
  case round =>
    obtain ⟨k, hk, rfl, rfl, HG, hc⟩ := hrel
    have hzr := hc.below.size
    by_cases hlt : k < n
    · have i1 : (k : Int) < (n : Int) := by omega
      have i2 : (0 : Int) ≤ (k : Int) := by omega
      obtain ⟨f, hx⟩ : ∃ f, fs[k]? = some f := ⟨_, List.getElem?_eq_getElem (by rw [HN.out]; exact hlt)⟩
      have HX := Lib.hid hx
      obtain ⟨g, cap', r, l, mm, hv, hl1, hl2, hl3, hp, hcell, hg1, hg2, hg3, hfz, hgo, hre, -⟩ := OwnG.elem (sz := 1) (enc := enc1) (fun _ => rfl) GRw.kind HG.out (bsmark_cur hx)
      obtain ⟨rfl, -, rfl⟩ := Value.slice.inj hv
      have c0 := hcell 0 _ rfl
      simp only [Nat.mul_one, Nat.add_zero] at c0
      have hcn := bscnt_at hx
      have hcs := bscnt_succ hx
      obtain ⟨mk, hmk⟩ : ∃ mk, m + bscnt (fs.take k) = mk := ⟨_, rfl⟩
      rw [hmk]
      have hmk2 : mk + bxcnt f ≤ 8388608 := by omega
      have HRE := Lib.hid hre
      have HP := Lib.hid hp
      have HM := Lib.hid (show mk + bxcnt f = m + bscnt (fs.take (k + 1)) by omega)
      have HEF := Lib.hid (HE.out k f hx)
      clear hre hp hcell hcn hcs hx hv hfz
      go_wp2_with fail
      refine (markSpanSS_any l mm f r mk wr HP.out (by omega) hmk2 HEF.out).mono ?_
      rintro e w2 ⟨rfl, ho2, hc2⟩
      have HG2 := Lib.hid (HRE.out w2 (bxmark mk f) hc2 ho2)
      have hcw : Chg lo hi w w2 := hc.trans (hc2.wide hl1 hl3)
      clear ho2 hc2
      go_wp2
      go_roundw
      case rel =>
        refine ⟨k + 1, by omega, by go_num, by have := HM.out; exact congrArg (Value.int .i64) (by omega), Lib.hid ?_, hcw⟩
        have h := HG2.out
        have hst := bsmark_step (m := m) HX.out
        rw [hmk] at hst
        rw [hst] at h
        exact h
      case measure => simp [intOf]; omega
    · have hkn : k = n := by omega
      subst hkn
      have HR := Lib.hid HG.out
      go_wp2
      go_ret
      refine ⟨ret_int (by rw [bscnt_full HN.out]), ?_, hc⟩
      have := HR.out
      rwa [bsmark_full HN.out] at this
set_option maxHeartbeats 1000000 in
theorem heldBoxS_any {lo : Nat} (fs : List Bx) (v : Value) (m : Nat) (w : World) (hs : Bxs lo w v (bsmark m fs)) (hN : m + bscnt fs ≤ 8388608) (he : ∀ (k : Nat) f, fs[k]? = some f → ∀ (j : Nat) xs, f[j]? = some xs → xs.length ≤ 1048576) :
    Calls Tryd.prog 42 #[v, .int .i64 (m : Int)] w fun e w' => e = .returned (.int .i64 ((m + bscnt fs : Nat) : Int)) ∧ w = w' := by
  obtain ⟨a, cap, rfl, hlc, hcm⟩ := hs.form
  unfold maxLen at hcm
  rw [bsmark_len] at hs hlc ⊢
  generalize hn : fs.length = n at *
  have HN := Lib.hid hn
  have HE := Lib.hid he
  have HS := Lib.hid hs
  clear hn he hs
  go_enter Tryd.func42, Tryd.ntmps42
  go_wp2_with fail
  go_loop [1, 5] (fun q i => ∃ k : Nat, k ≤ n ∧ i = .int .i64 k ∧ q = .int .i64 ((m + bscnt (fs.take k) : Nat) : Int)) (fun _ i => n - (intOf i).toNat)
  case atStart => exact ⟨0, by omega, rfl, rfl⟩
  case round =>
    obtain ⟨k, hk, rfl, rfl⟩ := hrel
    by_cases hlt : k < n
    · have i1 : (k : Int) < (n : Int) := by omega
      have i2 : (0 : Int) ≤ (k : Int) := by omega
      obtain ⟨f, hx⟩ : ∃ f, fs[k]? = some f := ⟨_, List.getElem?_eq_getElem (by rw [HN.out]; exact hlt)⟩
      obtain ⟨b', o, sv, rfl, hbl, c0, hsv⟩ := HS.out.at (bsmark_get hx)
      have hcn := bscnt_at hx
      have hcs := bscnt_succ hx
      obtain ⟨mk, hmk⟩ : ∃ mk, m + bscnt (fs.take k) = mk := ⟨_, rfl⟩
      simp only [hmk] at hsv
      rw [hmk]
      have hmk2 : mk + bxcnt f ≤ 8388608 := by omega
      have HSV := Lib.hid hsv
      have HM := Lib.hid (show mk + bxcnt f = m + bscnt (fs.take (k + 1)) by omega)
      have HEF := Lib.hid (HE.out k f hx)
      clear hcn hcs hx hsv
      go_wp2_with fail
      refine (heldSpanSS_any f sv mk _ HSV.out hmk2 HEF.out).mono ?_
      rintro e w2 ⟨rfl, rfl⟩
      have hp0 : ¬ ((mk + bxcnt f : Nat) : Int) < 0 := by omega
      go_wp2
      all_goals first | (exfalso; omega) | skip
      go_round
      case rel => exact ⟨k + 1, by omega, by go_num, by have := HM.out; exact congrArg (Value.int .i64) (by omega)⟩
      case measure => simp [intOf]; omega
    · have hkn : k = n := by omega
      subst hkn
      go_wp2
      go_ret
      exact ⟨ret_int (by rw [bscnt_full HN.out]), rfl⟩
theorem bs_he {bs : List Bx} (h : ∀ z ∈ bs, bvalid z = true) : ∀ (k : Nat) f, bs[k]? = some f → ∀ (j : Nat) xs, f[j]? = some xs → xs.length ≤ 1048576 :=
  fun k f hf j xs hx => by have := bvalid_lens (h f (List.mem_of_getElem? hf)) j xs hx; omega
theorem bs_le {bs : List Bx} (h : ∀ z ∈ bs, bvalid z = true) (hl : bs.length ≤ 400) : 1 + bscnt bs ≤ 8388608 := by
  have h1 : bscnt bs ≤ bs.length * 320 := gcnt_bound bs (fun k f hf => by
    have hb := h f (List.mem_of_getElem? hf)
    have h2 : bxcnt f ≤ f.length * 80 := gcnt_bound f (fun j xs hx => by have := bvalid_lens hb j xs hx; omega)
    rw [(bvalid_four hb).1] at h2
    omega)
  omega
set_option maxHeartbeats 2000000 in
set_option maxRecDepth 100000 in
theorem boxesOf_own {lo : Nat} (bs : List Bx) (v : Value) (w : World) (hs : Iss lo w v bs) (hl : bs.length ≤ 1000000) (hle : ∀ (k : Nat) b, bs[k]? = some b → ∀ (j : Nat) xs, b[j]? = some xs → xs.length ≤ 1000000) :
    Calls Tryd.prog 76 #[v] w fun e w' => ∃ v', e = .returned v' ∧ GBs w' w.heap.size w'.heap.size v' bs ∧ Below w.heap.size w w' := by
  obtain ⟨a, cap, rfl, hlc, hcm⟩ := hs.form
  unfold maxLen at hcm
  generalize hn : bs.length = n at *
  have HN := Lib.hid hn
  have HS := Lib.hid hs
  have HLE := Lib.hid hle
  obtain ⟨i0, hi, hy0, hy1, hy2⟩ := info_parts infoBx
  clear hn hs hle
  go_enter Tryd.func76, Tryd.ntmps76
  go_wp2_with (at_make; refine wpList_make_own _ rfl _ _ 42 rfl w.heap.size 28 i0 _ 1 Tryd.underlying42 hi hy0 hy1 _ _ _ n rfl rfl rfl ?b1 ?b2 ?b3 ?_)
  case b1 => rw [hy2]; omega
  case b2 => simp only [maxLen]; omega
  case b3 => omega
  intro w1 hown1 hgrow1
  have hb1 : Below w.heap.size w w1 := (Below.refl _ _).grown hgrow1 (Nat.le_refl _) (fun k hk => by cases hk)
  have HO1 := Lib.hid (show OwnSl w.heap.size 28 1 enc1 w1 (.slice (some ⟨w.heap.size, 0, none⟩) 0 n) ([] : List Value) by simpa [OwnSl] using hown1)
  clear hown1 hgrow1
  go_wp2_with fail
  go_loopw [3, 5, 11] (fun o _ i wr => ∃ (k : Nat) (rs : List Value), k ≤ n ∧ i = .int .i64 k ∧ OwnSl w.heap.size 28 1 enc1 wr o rs ∧ Hid (∀ z, o.ownBlock = some z → z < wr.heap.size) ∧ Hid (OwnD (fun l h y z => GRw wr l h y z ∧ Off o.ownBlock l h) w.heap.size wr.heap.size rs (bs.take k)) ∧ Below w.heap.size w wr) (fun _ _ i _ => n - (intOf i).toNat)
  case atStart => exact ⟨0, [], by omega, rfl, HO1.out, Lib.hid (fun z hz => (World.ownsRow.lt HO1.out z hz).2), Lib.hid hb1.size, hb1⟩
  case round =>
    obtain ⟨k, rs, hk, rfl, hO, HX, HD, hbr⟩ := hrel
    have HO := Lib.hid hO
    clear hO HO1 hb1
    have hzr := hbr.size
    by_cases hlt : k < n
    · have i1 : (k : Int) < (n : Int) := by omega
      have i2 : (0 : Int) ≤ (k : Int) := by omega
      obtain ⟨f, hx⟩ : ∃ f, bs[k]? = some f := ⟨_, List.getElem?_eq_getElem (by rw [HN.out]; exact hlt)⟩
      obtain ⟨b, o, v0, v1, v2, v3, rfl, hbl, c0, c1, c2, c3, hss⟩ := (HS.out.below hbr).at hx
      obtain ⟨a0, n0, p0, a1, n1, p1, a2, n2, p2, a3, n3, p3, rfl, rfl, rfl, rfl⟩ := sl4_form hss
      have HXX := Lib.hid hx
      have HSS := Lib.hid hss
      have HLF := Lib.hid (HLE.out k f hx)
      have HBD := Lib.hid (show rs.length ≤ 1000000 by have := HD.out.len; rw [List.length_take] at this; omega)
      clear hx hss
      have hal4 : Below wr.heap.size wr (wr.alloc (.cells #[.slice a0 n0 p0, .slice a1 n1 p1, .slice a2 n2 p2, .slice a3 n3 p3] 85)) := (Below.refl _ _).alloc (Nat.le_refl _) _
      go_wp2_with fail
      refine (box_any f _ _ _ _ wr _ HSS.out hal4 HLF.out).mono ?_
      rintro e w4 ⟨v4, rfl, ho4, hb4⟩
      have hw4 : Below wr.heap.size wr w4 := hal4.trans (hb4.mono hal4.size)
      have hz4 := hw4.size
      have hz5 := hb4.size
      simp only [World.size_alloc] at ho4 hz5
      obtain ⟨va4, vc4, rfl, -, -⟩ := ho4.rws.form
      have HG4 := Lib.hid (show GRw w4 wr.heap.size w4.heap.size _ f from (OwnRw.mono ho4 (by omega) (Nat.le_refl _)).g)
      have HW4 := Lib.hid hw4
      clear ho4 hb4
      go_wp2_with (at_builtin; refine wpList_append_lies _ rfl _ _ 42 rfl w.heap.size 28 i0 _ 1 24 Tryd.underlying42 hi hy0 hy1 hy2 rfl (by decide) _ rs.length (rs.flatMap enc1) rfl (World.ownsRow.alloc (OwnSl.kept HO.out HW4.out) _) ⟨w4.heap.size, 0, none⟩ 1 1 (enc1 (.slice va4 f.length vc4)) rfl rfl (cellsNew w4 (enc1 (.slice va4 f.length vc4)) _) ?c2 (by decide) ?c3 ?c4 ?c5 _ rfl ?_)
      case c2 => simp [Value.oneCell']
      case c3 => have := HBD.out; simp only [maxLen]; omega
      case c4 => have := HBD.out; omega
      case c5 => simp; omega
      intro g8 cap8 w8 hown8 hgrow8 hlies8 hlt8
      have hown9 : OwnSl w.heap.size 28 1 enc1 w8 (.slice (some ⟨g8, 0, none⟩) (rs.length + 1) cap8) (rs ++ [.slice va4 f.length vc4]) := by unfold OwnSl; simpa using hown8
      have hp8 := OwnG.push (P := GRw) (e := 28) (sz := 1) (enc := enc1) GRw.kind (w := wr) (w1 := w4) HD.out HX.out (by omega) HW4.out HG4.out (grown_old hgrow8) hown9 hlies8 hlt8 (by simp)
      have hB8 : Below w.heap.size w w8 := belGrown ((hbr.trans (HW4.out.mono hzr)).alloc (by omega) _) (World.ownsRow.alloc (OwnSl.kept HO.out HW4.out) _) hgrow8 (by simp; omega)
      have HP8 := Lib.hid hp8
      clear hown8 hgrow8 hlies8 hlt8 hown9 hp8
      go_wp2
      go_roundw
      case rel =>
        obtain ⟨vs6, ho6, hv6, hl6, hd6⟩ := HP8.out
        refine ⟨k + 1, vs6, by omega, by go_num, ho6, Lib.hid hv6, Lib.hid ?_, hB8⟩
        rw [List.take_add_one, HXX.out]
        exact hd6
      case measure => simp [intOf]; omega
    · have hkn : k = n := by omega
      go_wp2
      go_ret
      refine ⟨u3, rfl, ⟨rs, HO.out, HX.out, hzr, ?_⟩, hbr⟩
      have := HD.out
      rwa [List.take_of_length_le (by rw [HN.out]; omega)] at this
end Go.Proofs.YtgmonbhdgnamnaaDoor
