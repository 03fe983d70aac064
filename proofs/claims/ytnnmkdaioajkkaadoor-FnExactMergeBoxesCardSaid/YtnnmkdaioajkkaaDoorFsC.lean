/- The first common number of two sets: the program's walk. -/
import Derived.Test.YtnnmkdaioajkkaaDoorFsP
namespace Go.Proofs.YtnnmkdaioajkkaaDoor
open Go.RowKit
set_option maxHeartbeats 2000000 in
theorem firstCommon_any {lo lo' : Nat} {h1 m1 h2 m2 : Int} (xs ys : List Sp) (u v : Value) (w : World) (hs : Sps lo w u xs) (ht : Sps lo' w v ys) (gx : sgood h1 m1 xs = true) (gy : sgood h2 m2 ys = true) :
    Calls Tryd.prog 171 #[u, v] w fun e w' => e = .returned (.tuple #[.int .i64 (fcommon xs ys).1, .bool (fcommon xs ys).2]) ∧ Below w.heap.size w w' := by
  obtain ⟨a, cap, rfl, hlc, hcm⟩ := hs.form
  obtain ⟨a', cap', rfl, hlc', hcm'⟩ := ht.form
  unfold maxLen at hcm hcm'
  generalize hn : xs.length = n at *
  generalize hm : ys.length = m at *
  have HN := Lib.hid hn
  have HM := Lib.hid hm
  have GX := Lib.hid gx
  have GY := Lib.hid gy
  clear hn hm gx gy
  go_enter Tryd.func171, Tryd.ntmps171
  go_wp2_with fail
  go_loopw [6, 7, 8] (fun i j _ wr => ∃ p q : Nat, p ≤ n ∧ q ≤ m ∧ i = .int .i64 p ∧ j = .int .i64 q ∧ Hid (FC xs ys p q) ∧ Below w.heap.size w wr) (fun i j _ _ => n + m - ((intOf i).toNat + (intOf j).toNat))
  case atStart => exact ⟨0, 0, by omega, by omega, rfl, rfl, Lib.hid (FC.zero _ _), Below.refl _ _⟩
  case round =>
    obtain ⟨p, q, hp, hq, rfl, rfl, HF, hbr⟩ := hrel
    have hzr := hbr.size
    have i2 : (0 : Int) ≤ (p : Int) := by omega
    have i4 : (0 : Int) ≤ (q : Int) := by omega
    by_cases hlp : p < n
    · have i1 : (p : Int) < (n : Int) := by omega
      by_cases hlq : q < m
      · have i3 : (q : Int) < (m : Int) := by omega
        obtain ⟨b, o, f1, f2, rfl, hbl, hx1, c0, c1⟩ := (hs.below hbr).at (show p < xs.length by rw [HN.out]; exact hlp)
        obtain ⟨b', o', g1, g2, rfl, hbl', hx2, d0, d1⟩ := (ht.below hbr).at (show q < ys.length by rw [HM.out]; exact hlq)
        have HX := Lib.hid hx1
        have HY := Lib.hid hx2
        clear hx1 hx2
        go_wp2_with fail
        refine wp_region_over (by kernel_rfl) (by kernel_rfl) (fun ov => ?_); have ov0 := fun x => ov x (b) (by (try simp) <;> omega); have ov1 := fun x => ov x (b') (by (try simp) <;> omega); clear ov; (iterate 9 (iterate 8 (try go_big_quiet_step (first | fail)))); refine wpQuiet_nil ?_; intro w8 hw9; have hb_w8 := below_over hw9; clear hw9 ov0 ov1
        have hz8 := hb_w8.size
        have c0' := (hb_w8.cell (p := ⟨b, o + p * 2, none⟩) hbl).trans c0; have c1' := (hb_w8.cell (p := ⟨b, o + p * 2 + 1, none⟩) hbl).trans c1
        have d0' := (hb_w8.cell (p := ⟨b', o' + q * 2, none⟩) hbl').trans d0; have d1' := (hb_w8.cell (p := ⟨b', o' + q * 2 + 1, none⟩) hbl').trans d1
        have hbl8 : b < w8.heap.size := by omega
        have hbl8' : b' < w8.heap.size := by omega
        have hw8 : Below w.heap.size w w8 := hbr.trans (hb_w8.mono hzr)
        clear hb_w8 c0 c1 d0 d1
        obtain ⟨mx, hmx⟩ : ∃ mx, (if f1 < g1 then g1 else f1) = mx := ⟨_, rfl⟩
        rw [hmx]
        have HMX := Lib.hid (show max f1 g1 = mx by rw [← hmx, Int.max_def]; split <;> split <;> omega)
        clear hmx
        go_wp2_with fail
        refine wp_region_over (by kernel_rfl) (by kernel_rfl) (fun ov => ?_); have ov0 := fun x => ov x (b) (by (try simp) <;> omega); have ov1 := fun x => ov x (b') (by (try simp) <;> omega); clear ov; (iterate 9 (iterate 8 (try go_big_quiet_step (first | fail)))); refine wpQuiet_nil ?_; intro w9 hw9; have hb_w9 := below_over hw9; clear hw9 ov0 ov1
        have hz9 := hb_w9.size
        have c0 := (hb_w9.cell (p := ⟨b, o + p * 2, none⟩) hbl8).trans c0'; have c1 := (hb_w9.cell (p := ⟨b, o + p * 2 + 1, none⟩) hbl8).trans c1'
        have d0 := (hb_w9.cell (p := ⟨b', o' + q * 2, none⟩) hbl8').trans d0'; have d1 := (hb_w9.cell (p := ⟨b', o' + q * 2 + 1, none⟩) hbl8').trans d1'
        have hbl9 : b < w9.heap.size := by omega
        have hbl9' : b' < w9.heap.size := by omega
        have hw9 : Below w.heap.size w w9 := hw8.trans (hb_w9.mono hw8.size)
        clear hb_w9 c0' c1' d0' d1'
        obtain ⟨mn, hmn⟩ : ∃ mn, (if g2 < f2 then g2 else f2) = mn := ⟨_, rfl⟩
        rw [hmn]
        have HMN := Lib.hid (show min f2 g2 = mn by rw [← hmn, Int.min_def]; split <;> split <;> omega)
        clear hmn
        by_cases hmt : mx ≤ mn
        · have HE := Lib.hid (HF.out.hit HX.out HY.out (show meet1 ⟨f1, f2⟩ ⟨g1, g2⟩ = some ⟨mx, mn⟩ by rw [meet1, HMX.out, HMN.out, if_pos hmt]))
          go_wp2
          go_ret2
          exact ⟨by rw [HE.out]; rfl, hw9⟩
        · have HM1 := Lib.hid (show meet1 ⟨f1, f2⟩ ⟨g1, g2⟩ = none by rw [meet1, HMX.out, HMN.out, if_neg hmt])
          go_wp2_with fail
          refine wp_region_over (by kernel_rfl) (by kernel_rfl) (fun ov => ?_); have ov0 := fun x => ov x (b) (by (try simp) <;> omega); have ov1 := fun x => ov x (b') (by (try simp) <;> omega); clear ov; (iterate 9 (iterate 8 (try go_big_quiet_step (first | fail)))); refine wpQuiet_nil ?_; intro w7 hw9; have hb_w7 := below_over hw9; clear hw9 ov0 ov1
          have hw7 : Below w.heap.size w w7 := hw9.trans (hb_w7.mono hw9.size)
          clear hb_w7
          by_cases hfl : f2 < g2
          · have HE := Lib.hid (HF.out.left GY.out HX.out HY.out HM1.out hfl)
            go_wp2
            go_roundw
            case rel => exact ⟨p + 1, q, by omega, by omega, by go_num, rfl, HE, hw7⟩
            case measure => simp [intOf]; omega
          · have HE := Lib.hid (HF.out.right GX.out HX.out HY.out HM1.out hfl)
            go_wp2
            go_roundw
            case rel => exact ⟨p, q + 1, by omega, by omega, rfl, by go_num, HE, hw7⟩
            case measure => simp [intOf]; omega
      · have HE := Lib.hid (HF.out.none (.inr (show ys.length ≤ q by rw [HM.out]; omega)))
        go_wp2
        go_ret2
        exact ⟨by rw [HE.out]; rfl, hbr⟩
    · have HE := Lib.hid (HF.out.none (.inl (show xs.length ≤ p by rw [HN.out]; omega)))
      go_wp2
      go_ret2
      exact ⟨by rw [HE.out]; rfl, hbr⟩
theorem bempty_yes {b : Bx} {k : Nat} {xs : List Sp} (hx : b[k]? = some xs) (h : xs.isEmpty = true) : bempty b = true := by
  unfold bempty
  rw [List.any_eq_true]
  exact ⟨_, List.mem_of_getElem? hx, h⟩
theorem bempty_no {b : Bx} (h : ∀ (j : Nat) xs, b[j]? = some xs → xs.isEmpty = false) : bempty b = false := by
  unfold bempty
  rw [List.any_eq_false]
  intro z hz
  obtain ⟨i, hi⟩ := List.getElem?_of_mem hz
  simpa using h i z hi
set_option maxHeartbeats 2000000 in
theorem l10Empty_any {lo : Nat} (b : Bx) (v : Value) (w : World) (hs : Rws lo w v b) :
    Calls Tryd.prog 99 #[.agg #[v]] w fun e w' => e = .returned (.bool (bempty b)) ∧ Below w.heap.size w w' := by
  obtain ⟨a, cap, rfl, hlc, hcm⟩ := hs.form
  unfold maxLen at hcm
  have hal : Below w.heap.size w (w.alloc (.cells #[.slice a b.length cap] 28)) := (Below.refl _ _).alloc (Nat.le_refl _) _
  have q0 : (w.alloc (.cells #[.slice a b.length cap] 28)).cell? ⟨w.heap.size, 0, none⟩ = some (.slice a b.length cap) := by simp
  obtain ⟨W, hW⟩ : ∃ W, w.alloc (.cells #[.slice a b.length cap] 28) = W := ⟨_, rfl⟩
  have qs : w.heap.size < W.heap.size := by rw [← hW]; simp
  rw [hW] at hal q0
  have hsW := hs.below hal
  generalize hn : b.length = n at *
  have HN := Lib.hid hn
  clear hn
  go_enter Tryd.func99, Tryd.ntmps99
  go_wp2_with fail
  go_loopw [3] (fun i wr => ∃ k : Nat, k ≤ n ∧ i = .int .i64 k ∧ Hid (∀ (j : Nat) xs, j < k → b[j]? = some xs → xs.isEmpty = false) ∧ Below W.heap.size W wr) (fun i _ => n - (intOf i).toNat)
  case atStart => exact ⟨0, by omega, rfl, Lib.hid (fun i xs hi => by omega), Below.refl _ _⟩
  case round =>
    obtain ⟨k, hk, rfl, HG, hbr⟩ := hrel
    have hzr := hbr.size
    have e0 := (hbr.cell (p := ⟨w.heap.size, 0, none⟩) qs).trans q0
    have qsr : w.heap.size < wr.heap.size := Nat.lt_of_lt_of_le qs hzr
    have hs2 := hsW.below hbr
    have hwr : Below w.heap.size w wr := hal.trans (hbr.mono (by omega))
    by_cases hlt : k < n
    · have i1 : (k : Int) < (n : Int) := by omega
      have i2 : (0 : Int) ≤ (k : Int) := by omega
      obtain ⟨xs, hx⟩ : ∃ xs, b[k]? = some xs := ⟨_, List.getElem?_eq_getElem (by rw [HN.out]; exact hlt)⟩
      obtain ⟨b', o, sv, rfl, hbl, c0, hsv⟩ := hs2.at hx
      have HX := Lib.hid hx
      obtain ⟨sa, sc, rfl, -, -⟩ := hsv.form
      clear hx hsv
      cases hv : xs.isEmpty
      · have HV := Lib.hid hv
        have hne : ((xs.length : Int) == 0) = false := by
          cases xs with
          | nil => simp at hv
          | cons x xs => simp; omega
        clear hv
        go_wp2
        go_roundw
        case rel =>
          refine ⟨k + 1, by omega, by go_num, Lib.hid (fun j ys hj hy => ?_), hbr⟩
          by_cases e : j = k
          · subst e; rw [HX.out] at hy; cases hy; exact HV.out
          · exact HG.out j ys (by omega) hy
        case measure => simp [intOf]; omega
      · have HE := Lib.hid (bempty_yes HX.out hv)
        obtain rfl : xs = [] := by simpa using hv
        clear hv
        go_wp2
        go_ret
        exact ⟨ret_bool HE.out.symm, hwr⟩
    · have hkn : k = n := by omega
      have HE := Lib.hid (bempty_no (b := b) (fun j xs hj => HG.out j xs (by have := (List.getElem?_eq_some_iff.1 hj).1; rw [HN.out] at this; omega) hj))
      go_wp2
      go_ret
      exact ⟨ret_bool HE.out.symm, hwr⟩
theorem l10Empty_b {lo : Nat} {b : Bx} {v : Value} {w : World} {r : Bool} (hs : Rws lo w v b) (h : bempty b = r) :
    Calls Tryd.prog 99 #[.agg #[v]] w fun e w' => e = .returned (.bool r) ∧ Below w.heap.size w w' := by
  subst h
  exact l10Empty_any b v w hs
/-- The value that firstCommon returns, if it returns true. -/
def fcv (a b : Bx) (i : Nat) : Int := match a[i]?, b[i]? with
  | some x, some y => (fcommon x y).1
  | _, _ => 0
theorem fcv_at {a b : Bx} {i : Nat} {x y : List Sp} (hx : a[i]? = some x) (hy : b[i]? = some y) : fcv a b i = (fcommon x y).1 := by
  unfold fcv
  rw [hx, hy]
def bfst (a b : Bx) : Value := if bempty (bmeet a b) then .agg #[.int .i64 0, .int .i64 0, .int .i64 0, .int .i64 0] else .agg #[.int .i64 (fcv a b 0), .int .i64 (fcv a b 1), .int .i64 (fcv a b 2), .int .i64 (fcv a b 3)]
theorem firstCommon_b {lo lo' : Nat} {h1 m1 h2 m2 : Int} {xs ys : List Sp} {u v : Value} {w : World} {p : Int} {r : Bool} (hs : Sps lo w u xs) (ht : Sps lo' w v ys) (gx : sgood h1 m1 xs = true) (gy : sgood h2 m2 ys = true) (h1' : (fcommon xs ys).1 = p) (h2' : (fcommon xs ys).2 = r) :
    Calls Tryd.prog 171 #[u, v] w fun e w' => e = .returned (.tuple #[.int .i64 p, .bool r]) ∧ Below w.heap.size w w' := by
  subst h1' h2'
  exact firstCommon_any xs ys u v w hs ht gx gy
theorem svalid_good {xs : List Sp} {t : Int} (h : svalid xs t = true) : sgood t 0 xs = true := by
  unfold svalid at h
  rw [Bool.and_eq_true] at h
  exact h.2
theorem alloc4_cells (w : World) (A B C D : Array Value) (t1 t2 t3 t4 : Nat) :
    (∀ k, ((((w.alloc (.cells A t1)).alloc (.cells B t2)).alloc (.cells C t3)).alloc (.cells D t4)).cell? ⟨w.heap.size, k, none⟩ = A[k]?) ∧ (∀ k, ((((w.alloc (.cells A t1)).alloc (.cells B t2)).alloc (.cells C t3)).alloc (.cells D t4)).cell? ⟨w.heap.size + 1, k, none⟩ = B[k]?) ∧
    (∀ k, ((((w.alloc (.cells A t1)).alloc (.cells B t2)).alloc (.cells C t3)).alloc (.cells D t4)).cell? ⟨w.heap.size + 1 + 1, k, none⟩ = C[k]? ∧ ((((w.alloc (.cells A t1)).alloc (.cells B t2)).alloc (.cells C t3)).alloc (.cells D t4)).frozen? ⟨w.heap.size + 1 + 1, k, none⟩ = false) ∧
    (∀ k, ((((w.alloc (.cells A t1)).alloc (.cells B t2)).alloc (.cells C t3)).alloc (.cells D t4)).cell? ⟨w.heap.size + 1 + 1 + 1, k, none⟩ = D[k]? ∧ ((((w.alloc (.cells A t1)).alloc (.cells B t2)).alloc (.cells C t3)).alloc (.cells D t4)).frozen? ⟨w.heap.size + 1 + 1 + 1, k, none⟩ = false) := by
  refine ⟨fun k => ?_, fun k => ?_, fun k => ⟨?_, ?_⟩, fun k => ⟨?_, ?_⟩⟩ <;> go_simp
set_option maxHeartbeats 400000 in
theorem packetOf_any (a b c d : Int) (w : World) :
    Calls Tryd.prog 172 #[.agg #[.int .i64 a, .int .i64 b, .int .i64 c, .int .i64 d]] w fun e w' => e = .returned (.agg #[.int .i64 a, .int .i64 b, .int .i64 c, .int .i64 d]) ∧ Below w.heap.size w w' := by
  go_enter Tryd.func172, Tryd.ntmps172
  go_wp2
  exact bodyPost_ret (v := .agg #[.int .i64 a, .int .i64 b, .int .i64 c, .int .i64 d]) (by simp [results, Tryd.results172, go_sem]) rfl ⟨rfl, by (repeat' (first | with_reducible exact Below.refl _ _ | with_reducible assumption | with_reducible refine Below.setCell ?_ ?_ _ | with_reducible refine Below.alloc ?_ ?_ _ | with_reducible refine Below.drew ?_ | with_reducible refine belDrewN ?_ _ | with_reducible refine Below.trans ?_ (Below.mono (by assumption) ?_) | omega | (simp; omega) | (simp; done)))⟩
set_option maxHeartbeats 4000000 in
theorem fstCommon_any {lo lo' : Nat} (a b : Bx) (v0 v1 v2 v3 u0 u1 u2 u3 : Value) (w : World) (hs : All2 (Sps lo w) [v0, v1, v2, v3] a) (ht : All2 (Sps lo' w) [u0, u1, u2, u3] b) (ha : bvalid a = true) (hb : bvalid b = true) :
    Calls Tryd.prog 162 #[.agg #[v0, v1, v2, v3], .agg #[u0, u1, u2, u3]] w fun e w' => e = .returned (.tuple #[bfst a b, .bool (!bempty (bmeet a b))]) ∧ Below w.heap.size w w' := by
  obtain ⟨W, hW⟩ : ∃ W, ((((w.alloc (.cells #[v0, v1, v2, v3] 92)).alloc (.cells #[u0, u1, u2, u3] 92)).alloc (.cells #[.int .i64 0, .int .i64 0, .int .i64 0, .int .i64 0] 52)).alloc (.cells #[.int .i64 0, .int .i64 0, .int .i64 0, .int .i64 0] 163)) = W := ⟨_, rfl⟩
  have hal : Below w.heap.size w W := by rw [← hW]; (repeat' (first | with_reducible exact Below.refl _ _ | with_reducible assumption | with_reducible refine Below.setCell ?_ ?_ _ | with_reducible refine Below.alloc ?_ ?_ _ | with_reducible refine Below.drew ?_ | with_reducible refine belDrewN ?_ _ | with_reducible refine Below.trans ?_ (Below.mono (by assumption) ?_) | omega | (simp; omega) | (simp; done)))
  have HA4 := alloc4_cells w #[v0, v1, v2, v3] #[u0, u1, u2, u3] #[.int .i64 0, .int .i64 0, .int .i64 0, .int .i64 0] #[.int .i64 0, .int .i64 0, .int .i64 0, .int .i64 0] 92 92 52 163
  rw [hW] at HA4
  have HQ := Lib.hid (show ∀ (k : Nat) v, [v0, v1, v2, v3][k]? = some v → W.cell? ⟨w.heap.size, k, none⟩ = some v from fun k v hk => by rw [HA4.1 k]; simpa using hk)
  have HU := Lib.hid (show ∀ (k : Nat) v, [u0, u1, u2, u3][k]? = some v → W.cell? ⟨w.heap.size + 1, k, none⟩ = some v from fun k v hk => by rw [HA4.2.1 k]; simpa using hk)
  have HR4 := Lib.hid HA4.2.2.1
  have HF4 := Lib.hid HA4.2.2.2
  clear HA4
  have qs : W.heap.size = w.heap.size + 1 + 1 + 1 + 1 := by rw [← hW]; simp
  go_enter Tryd.func162, Tryd.ntmps162
  go_wp2_with fail
  go_loopw [5, 7, 8, 9, 10] (fun _ _ _ _ i wr => ∃ k : Nat, k ≤ 4 ∧ i = .int .i64 k ∧ Hid (TC a b k) ∧ Hid (∀ j, j < 4 → wr.cell? ⟨w.heap.size + 1 + 1 + 1, j, none⟩ = some (.int .i64 (if j < k then fcv a b j else 0)) ∧ wr.frozen? ⟨w.heap.size + 1 + 1 + 1, j, none⟩ = false) ∧ Below (w.heap.size + 1 + 1 + 1) W wr) (fun _ _ _ _ i _ => 4 - (intOf i).toNat)
  case atStart =>
    refine ⟨0, by omega, rfl, Lib.hid (fun i x y hi => by omega), Lib.hid (fun j hj => ?_), Below.refl _ _⟩
    refine ⟨?_, (HF4.out j).2⟩
    rw [(HF4.out j).1]
    rcases (by omega : j = 0 ∨ j = 1 ∨ j = 2 ∨ j = 3) with rfl | rfl | rfl | rfl <;> simp
  case round =>
    obtain ⟨k, hk4, rfl, HG, HF, hbr⟩ := hrel
    have hzr := hbr.size
    have hwr : Below w.heap.size w wr := hal.trans (hbr.mono (by omega))
    have z0 : w.heap.size < wr.heap.size := by omega
    have z1 : w.heap.size + 1 < wr.heap.size := by omega
    have z2 : w.heap.size + 1 + 1 < wr.heap.size := by omega
    have z3 : w.heap.size + 1 + 1 + 1 < wr.heap.size := by omega
    by_cases hlt : k < 4
    · have i1 : (k : Int) < 4 := by omega
      have i2 : (0 : Int) ≤ (k : Int) := by omega
      obtain ⟨x, hx⟩ : ∃ x, a[k]? = some x := ⟨_, List.getElem?_eq_getElem (by rw [← hs.1]; exact hlt)⟩
      obtain ⟨y, hy⟩ : ∃ y, b[k]? = some y := ⟨_, List.getElem?_eq_getElem (by rw [← ht.1]; exact hlt)⟩
      obtain ⟨sv, hsv, hss⟩ := hs.left hx
      obtain ⟨tv, htv, htt⟩ := ht.left hy
      have d0 : wr.cell? ⟨w.heap.size, k, none⟩ = some sv := (hbr.cell (p := ⟨w.heap.size, k, none⟩) (by simp only; omega)).trans (HQ.out k sv hsv)
      have d1 : wr.cell? ⟨w.heap.size + 1, k, none⟩ = some tv := (hbr.cell (p := ⟨w.heap.size + 1, k, none⟩) (by simp only; omega)).trans (HU.out k tv htv)
      have HX := Lib.hid hx
      have HY := Lib.hid hy
      have HSV := Lib.hid (hss.below hwr)
      have HTV := Lib.hid (htt.below hwr)
      obtain ⟨-, bva⟩ := bvalid_four ha
      obtain ⟨-, bvb⟩ := bvalid_four hb
      clear hx hy hss htt hsv htv
      obtain ⟨p, hp⟩ : ∃ p, (fcommon x y).1 = p := ⟨_, rfl⟩
      obtain ⟨r, hr⟩ : ∃ r, (fcommon x y).2 = r := ⟨_, rfl⟩
      have HP := Lib.hid hp
      have HR := Lib.hid hr
      have GX := Lib.hid (bva k x hlt HX.out)
      have GY := Lib.hid (bvb k y hlt HY.out)
      have hfz := (HF.out k hlt).2
      have hfc := (HF.out k hlt).1
      rw [if_neg (by omega)] at hfc
      clear hp hr bva bvb
      go_wp2_with fail
      refine wp_region_over (by kernel_rfl) (by kernel_rfl) (fun ov => ?_); have ov0 := fun x => ov x (w.heap.size) (by (try simp) <;> omega); have ov1 := fun x => ov x (w.heap.size + 1) (by (try simp) <;> omega); clear ov; (iterate 9 (iterate 8 (try go_big_quiet_step (first | (go_at_call 171; with_reducible exact callsOver (firstCommon_b (HSV.out.below (over_below _ _)) (HTV.out.below (over_below _ _)) (svalid_good GX.out) (svalid_good GY.out) HP.out HR.out)))))); refine wpQuiet_nil ?_; intro w9 hw9; have hb_w9 := below_over hw9; clear hw9 ov0 ov1
      have hb3 : Below (w.heap.size + 1 + 1 + 1) W w9 := hbr.trans (hb_w9.mono (by omega))
      have hw9 : Below w.heap.size w w9 := hwr.trans (hb_w9.mono hwr.size)
      have hz9 := hb_w9.size
      have g0 := (hb_w9.cell (p := ⟨w.heap.size + 1 + 1 + 1, k, none⟩) z3).trans hfc
      have f0 := (hb_w9.frozen (p := ⟨w.heap.size + 1 + 1 + 1, k, none⟩) z3).trans hfz
      have HF9 := Lib.hid (show ∀ j, j < 4 → w9.cell? ⟨w.heap.size + 1 + 1 + 1, j, none⟩ = some (.int .i64 (if j < k then fcv a b j else 0)) ∧ w9.frozen? ⟨w.heap.size + 1 + 1 + 1, j, none⟩ = false from fun j hj => ⟨(hb_w9.cell (p := ⟨w.heap.size + 1 + 1 + 1, j, none⟩) z3).trans (HF.out j hj).1, (hb_w9.frozen (p := ⟨w.heap.size + 1 + 1 + 1, j, none⟩) z3).trans (HF.out j hj).2⟩)
      have r0 := (hb3.cell (p := ⟨w.heap.size + 1 + 1, 0, none⟩) (by simp only; omega)).trans (HR4.out 0).1
      have r1 := (hb3.cell (p := ⟨w.heap.size + 1 + 1, 1, none⟩) (by simp only; omega)).trans (HR4.out 1).1
      have r2 := (hb3.cell (p := ⟨w.heap.size + 1 + 1, 2, none⟩) (by simp only; omega)).trans (HR4.out 2).1
      have r3 := (hb3.cell (p := ⟨w.heap.size + 1 + 1, 3, none⟩) (by simp only; omega)).trans (HR4.out 3).1
      have n0 := fun j => (hb3.frozen (p := ⟨w.heap.size + 1 + 1, j, none⟩) (by simp only; omega)).trans (HR4.out j).2
      simp at r0 r1 r2 r3
      clear hb_w9 hfc hfz d0 d1
      cases r
      · have HE := Lib.hid (TC.no HX.out HY.out HR.out)
        have hwW : Below w.heap.size w ((((w9.setCell ⟨w.heap.size + 1 + 1, 0, none⟩ (.int .i64 0)).setCell ⟨w.heap.size + 1 + 1, 1, none⟩ (.int .i64 0)).setCell ⟨w.heap.size + 1 + 1, 2, none⟩ (.int .i64 0)).setCell ⟨w.heap.size + 1 + 1, 3, none⟩ (.int .i64 0)) := (((hw9.setCell (by simp only; omega) _).setCell (by simp only; omega) _).setCell (by simp only; omega) _).setCell (by simp only; omega) _
        go_wp2
        refine bodyPost_ret (v := .tuple #[.agg #[.int .i64 0, .int .i64 0, .int .i64 0, .int .i64 0], .bool false]) ?_ rfl ⟨by unfold bfst; rw [HE.out]; rfl, hwW⟩
        simp [results, Tryd.results162, go_sem, r0, r1, r2, r3]
        done
      · have HE := Lib.hid (HG.out.step HX.out HY.out HR.out)
        have HV := Lib.hid (fcv_at HX.out HY.out)
        go_wp2
        go_roundw
        case rel =>
          refine ⟨k + 1, by omega, by go_num, HE, Lib.hid (fun j hj => ⟨?_, ?_⟩), hb3.setCell (Nat.le_refl _) _⟩
          · by_cases e : j = k
            · subst e
              rw [World.cell?_setCell_same' _ _ _ (by rw [g0]; rfl), if_pos (by omega), HV.out, HP.out]
            · rw [World.cell?_setCell_other _ _ _ _ (by intro h; cases h; exact e rfl), (HF9.out j hj).1]
              by_cases h : j < k
              · rw [if_pos h, if_pos (by omega)]
              · rw [if_neg h, if_neg (by omega)]
          · rw [World.frozen?_setCell]; exact (HF9.out j hj).2
        case measure => simp [intOf]; omega
    · have hkn : k = 4 := by omega
      have HE := Lib.hid (HG.out.yes (by rw [← hs.1, hkn]; exact Nat.le_refl 4))
      have f4 := HF.out
      subst hkn
      have c0 := (f4 0 (by omega)).1
      have c1 := (f4 1 (by omega)).1
      have c2 := (f4 2 (by omega)).1
      have c3 := (f4 3 (by omega)).1
      rw [if_pos (by omega)] at c0 c1 c2 c3
      have r0 := (hbr.cell (p := ⟨w.heap.size + 1 + 1, 0, none⟩) (by simp only; omega)).trans (HR4.out 0).1
      have r1 := (hbr.cell (p := ⟨w.heap.size + 1 + 1, 1, none⟩) (by simp only; omega)).trans (HR4.out 1).1
      have r2 := (hbr.cell (p := ⟨w.heap.size + 1 + 1, 2, none⟩) (by simp only; omega)).trans (HR4.out 2).1
      have r3 := (hbr.cell (p := ⟨w.heap.size + 1 + 1, 3, none⟩) (by simp only; omega)).trans (HR4.out 3).1
      have n0 := fun j => (hbr.frozen (p := ⟨w.heap.size + 1 + 1, j, none⟩) (by simp only; omega)).trans (HR4.out j).2
      simp at r0 r1 r2 r3
      clear f4 HF
      go_wp2_with fail
      refine (packetOf_any _ _ _ _ _).mono ?_
      rintro e w9 ⟨rfl, hb9⟩
      have hz9 := hb9.size
      have q0 := (hb9.cell (p := ⟨w.heap.size + 1 + 1, 0, none⟩) z2).trans r0
      have q1 := (hb9.cell (p := ⟨w.heap.size + 1 + 1, 1, none⟩) z2).trans r1
      have q2 := (hb9.cell (p := ⟨w.heap.size + 1 + 1, 2, none⟩) z2).trans r2
      have q3 := (hb9.cell (p := ⟨w.heap.size + 1 + 1, 3, none⟩) z2).trans r3
      have m0 := fun j => (hb9.frozen (p := ⟨w.heap.size + 1 + 1, j, none⟩) z2).trans (n0 j)
      have hw9 : Below w.heap.size w w9 := hwr.trans (hb9.mono hwr.size)
      clear hb9 n0 r0 r1 r2 r3
      have hwW : Below w.heap.size w ((((w9.setCell ⟨w.heap.size + 1 + 1, 0, none⟩ (.int .i64 (fcv a b 0))).setCell ⟨w.heap.size + 1 + 1, 1, none⟩ (.int .i64 (fcv a b 1))).setCell ⟨w.heap.size + 1 + 1, 2, none⟩ (.int .i64 (fcv a b 2))).setCell ⟨w.heap.size + 1 + 1, 3, none⟩ (.int .i64 (fcv a b 3))) := (((hw9.setCell (by simp only; omega) _).setCell (by simp only; omega) _).setCell (by simp only; omega) _).setCell (by simp only; omega) _
      go_wp2
      refine bodyPost_ret (v := .tuple #[.agg #[.int .i64 (fcv a b 0), .int .i64 (fcv a b 1), .int .i64 (fcv a b 2), .int .i64 (fcv a b 3)], .bool true]) ?_ rfl ⟨by unfold bfst; rw [HE.out]; rfl, hwW⟩
      simp [results, Tryd.results162, go_sem, q0, q1, q2, q3]
theorem fstCommon_b {lo lo' : Nat} {a b : Bx} {v0 v1 v2 v3 u0 u1 u2 u3 : Value} {w : World} {r : Bool} (hs : All2 (Sps lo w) [v0, v1, v2, v3] a) (ht : All2 (Sps lo' w) [u0, u1, u2, u3] b) (ha : bvalid a = true) (hb : bvalid b = true) (h : (!bempty (bmeet a b)) = r) :
    Calls Tryd.prog 162 #[.agg #[v0, v1, v2, v3], .agg #[u0, u1, u2, u3]] w fun e w' => e = .returned (.tuple #[bfst a b, .bool r]) ∧ Below w.heap.size w w' := by
  subst h
  exact fstCommon_any a b v0 v1 v2 v3 u0 u1 u2 u3 w hs ht ha hb
set_option maxHeartbeats 1000000 in
theorem touches_b {lo lo' : Nat} {a b : Bx} {v0 v1 v2 v3 u0 u1 u2 u3 : Value} {w : World} {r : Bool} (hs : All2 (Sps lo w) [v0, v1, v2, v3] a) (ht : All2 (Sps lo' w) [u0, u1, u2, u3] b) (ha : bvalid a = true) (hb : bvalid b = true) (h : (!bempty (bmeet a b)) = r) :
    Calls Tryd.prog 143 #[.agg #[v0, v1, v2, v3], .agg #[u0, u1, u2, u3]] w fun e w' => e = .returned (.bool r) ∧ Below w.heap.size w w' := by
  have HS := Lib.hid hs
  have HT := Lib.hid ht
  have HH := Lib.hid h
  obtain ⟨p1, p2, p3, p4, hp⟩ : ∃ p1 p2 p3 p4, bfst a b = .agg #[.int .i64 p1, .int .i64 p2, .int .i64 p3, .int .i64 p4] := by
    unfold bfst
    split
    · exact ⟨_, _, _, _, rfl⟩
    · exact ⟨_, _, _, _, rfl⟩
  have HP := Lib.hid hp
  clear hs ht h hp
  go_enter Tryd.func143, Tryd.ntmps143
  go_wp2_with fail
  refine (fstCommon_b (HS.out.mono (fun _ _ h => h.below (by (repeat' (first | with_reducible exact Below.refl _ _ | with_reducible assumption | with_reducible refine Below.setCell ?_ ?_ _ | with_reducible refine Below.alloc ?_ ?_ _ | with_reducible refine Below.drew ?_ | with_reducible refine belDrewN ?_ _ | with_reducible refine Below.trans ?_ (Below.mono (by assumption) ?_) | omega | (simp; omega) | (simp; done)))))) (HT.out.mono (fun _ _ h => h.below (by (repeat' (first | with_reducible exact Below.refl _ _ | with_reducible assumption | with_reducible refine Below.setCell ?_ ?_ _ | with_reducible refine Below.alloc ?_ ?_ _ | with_reducible refine Below.drew ?_ | with_reducible refine belDrewN ?_ _ | with_reducible refine Below.trans ?_ (Below.mono (by assumption) ?_) | omega | (simp; omega) | (simp; done)))))) ha hb HH.out).mono ?_
  rw [HP.out]
  rintro e w1 ⟨rfl, hb1⟩
  have hw1 : Below w.heap.size w w1 := by (repeat' (first | with_reducible exact Below.refl _ _ | with_reducible assumption | with_reducible refine Below.setCell ?_ ?_ _ | with_reducible refine Below.alloc ?_ ?_ _ | with_reducible refine Below.drew ?_ | with_reducible refine belDrewN ?_ _ | with_reducible refine Below.trans ?_ (Below.mono (by assumption) ?_) | omega | (simp; omega) | (simp; done)))
  clear hb1
  have hz1 := hw1.size
  go_wp2
  go_ret
  exact ⟨rfl, by (repeat' (first | with_reducible exact Below.refl _ _ | with_reducible assumption | with_reducible refine Below.setCell ?_ ?_ _ | with_reducible refine Below.alloc ?_ ?_ _ | with_reducible refine Below.drew ?_ | with_reducible refine belDrewN ?_ _ | with_reducible refine Below.trans ?_ (Below.mono (by assumption) ?_) | omega | (simp; omega) | (simp; done)))⟩
end Go.Proofs.YtnnmkdaioajkkaaDoor
