/- Counts of hits: plain definitions and laws. -/
import Derived.Test.YtgmonbhdgnamnaaDoorFnM
import Derived.Test.YtgmonbhdgnamnaaDoorFsP
namespace Go.Proofs.YtgmonbhdgnamnaaDoor
open Go.RowKit
def hinc (c : List Int) (i : Nat) : List Int := c.set i (c.getD i 0 + 1)
def hidx (fs : List Ft) (p : Pk) : Nat := if fwith fs p 0 < 0 then fs.length else (fwith fs p 0).toNat
def hits (fs : List Ft) (ps : List Pk) : Nat → List Int
  | 0 => List.replicate (fs.length + 1) 0
  | k + 1 => match ps[k]? with
    | some p => hinc (hits fs ps k) (hidx fs p)
    | none => hits fs ps k
def pvalid (ps : List Pk) : Bool := decide (ps.length ≤ 50) && ps.all Pk.ok
def hcount (fs : List Ft) (ps : List Pk) : List Int := if fvalid fs && pvalid ps then hits fs ps ps.length else []
theorem hits_succ {fs : List Ft} {ps : List Pk} {k : Nat} {p : Pk} (h : ps[k]? = some p) : hits fs ps (k + 1) = hinc (hits fs ps k) (hidx fs p) := by
  conv => lhs; unfold hits
  rw [h]
theorem hits_len (fs : List Ft) (ps : List Pk) : ∀ k, (hits fs ps k).length = fs.length + 1
  | 0 => by simp [hits]
  | k + 1 => by
    have := hits_len fs ps k
    unfold hits
    split
    · simp [hinc, this]
    · exact this
theorem hits_bound (fs : List Ft) (ps : List Pk) : ∀ (k i : Nat) (x : Int), (hits fs ps k)[i]? = some x → 0 ≤ x ∧ x ≤ k
  | 0, i, x, h => by
    unfold hits at h
    rw [List.getElem?_replicate] at h
    split at h
    · cases h; omega
    · cases h
  | k + 1, i, x, h => by
    unfold hits at h
    split at h
    · rename_i p hp
      unfold hinc at h
      rw [List.getElem?_set] at h
      split at h
      · split at h
        · cases h
          rename_i hlt
          have := hits_bound fs ps k (hidx fs p) ((hits fs ps k).getD (hidx fs p) 0) (by
            rw [List.getD_eq_getElem?_getD, List.getElem?_eq_getElem hlt]; simp)
          omega
        · cases h
      · have := hits_bound fs ps k i x h
        omega
    · have := hits_bound fs ps k i x h
      omega
theorem fwith_range : ∀ (fs : List Ft) (p : Pk) (k : Nat), fwith fs p k = -1 ∨ ((k : Int) ≤ fwith fs p k ∧ fwith fs p k < (k : Int) + fs.length)
  | [], p, k => by simp [fwith]
  | f :: fs, p, k => by
    have := fwith_range fs p (k + 1)
    unfold fwith
    split
    · right; simp; omega
    · rcases this with h | ⟨h1, h2⟩
      · left; exact h
      · right; simp only [List.length_cons]; omega
theorem hidx_lt (fs : List Ft) (p : Pk) : hidx fs p ≤ fs.length := by
  unfold hidx
  split
  · exact Nat.le_refl _
  · rcases fwith_range fs p 0 with h | h <;> omega
theorem pvalid_at {ps : List Pk} (h : pvalid ps = true) {k : Nat} {p : Pk} (hx : ps[k]? = some p) : Pk.ok p = true := by
  unfold pvalid at h
  rw [Bool.and_eq_true, List.all_eq_true] at h
  exact h.2 p (List.mem_of_getElem? hx)
theorem pvalid_50 {ps : List Pk} (h : pvalid ps = true) : ps.length ≤ 50 := by
  unfold pvalid at h
  rw [Bool.and_eq_true] at h
  exact of_decide_eq_true h.1
theorem pvalid_no {ps : List Pk} {k : Nat} {p : Pk} (hx : ps[k]? = some p) (h : Pk.ok p = false) : pvalid ps = false := by
  unfold pvalid
  rw [Bool.and_eq_false_iff]
  right
  rw [List.all_eq_false]
  exact ⟨p, List.mem_of_getElem? hx, by simp [h]⟩
theorem pvalid_big {ps : List Pk} (h : 50 < ps.length) : pvalid ps = false := by
  unfold pvalid
  rw [decide_eq_false (by omega)]
  rfl
theorem pvalid_yes {ps : List Pk} (h : ps.length ≤ 50) (ha : ∀ (k : Nat) p, ps[k]? = some p → Pk.ok p = true) : pvalid ps = true := by
  unfold pvalid
  rw [Bool.and_eq_true, List.all_eq_true]
  refine ⟨decide_eq_true h, fun p hp => ?_⟩
  obtain ⟨k, hk⟩ := List.getElem?_of_mem hp
  exact ha k p hk
set_option maxRecDepth 20000
theorem infoPk : (Tryd.prog.info? 40).map (fun i => (i.zero, i.size, i.bytes)) = some (some (.agg #[.int .i64 0, .int .i64 0, .int .i64 0, .int .i64 0]), 4, 32) := by kernel_rfl
theorem infoInt : (Tryd.prog.info? 3).map (fun i => (i.zero, i.size, i.bytes)) = some (some (.int .i64 0), 1, 8) := by kernel_rfl
def Pks (w : World) (v : Value) (xs : List Pk) : Prop := SlAt 4 Pk.enc w v xs
theorem Pks.below {w w' : World} {v : Value} {xs : List Pk} (h : Pks w v xs) (hb : Below w.heap.size w w') : Pks w' v xs := SlAt.below h hb
theorem Pks.at {w : World} {a : Option Addr} {n cap : Nat} {xs : List Pk} (h : Pks w (.slice a n cap) xs) {k : Nat} (hk : k < xs.length) :
    ∃ b o f1 f2 f3 f4, a = some ⟨b, o, none⟩ ∧ b < w.heap.size ∧ xs[k]? = some ⟨f1, f2, f3, f4⟩ ∧
      w.cell? ⟨b, o + k * 4, none⟩ = some (.int .i64 f1) ∧ w.cell? ⟨b, o + k * 4 + 1, none⟩ = some (.int .i64 f2) ∧ w.cell? ⟨b, o + k * 4 + 2, none⟩ = some (.int .i64 f3) ∧
      w.cell? ⟨b, o + k * 4 + 3, none⟩ = some (.int .i64 f4) := by
  obtain ⟨a', cap', he, _, _, hx⟩ := h
  obtain ⟨rfl, _, _⟩ := Value.slice.inj he
  obtain ⟨b, o, ha, hb, hc⟩ := hx k xs[k] (List.getElem?_eq_getElem hk)
  exact ⟨b, o, xs[k].from_, xs[k].to_, xs[k].port, xs[k].proto, ha, hb, List.getElem?_eq_getElem hk, hc 0 _ rfl, hc 1 _ rfl, hc 2 _ rfl, hc 3 _ rfl⟩
def OwnPk (base : Nat) (w : World) (v : Value) (ys : List Pk) : Prop := OwnSl base 40 4 Pk.enc w v ys
theorem OwnPk.pks {base : Nat} {w : World} {v : Value} {ys : List Pk} (h : OwnPk base w v ys) : Pks w v ys := OwnSl.at (sz := 4) (enc := Pk.enc) (fun _ => rfl) h
def RetPk (ys : List Pk) (w : World) (e : Ending) (w' : World) : Prop := ∃ v, e = .returned v ∧ OwnPk w.heap.size w' v ys ∧ Below w.heap.size w w'
/-- Numbers. -/
abbrev encI (n : Int) : List Value := [.int .i64 n]
def Ins (w : World) (v : Value) (xs : List Int) : Prop := SlAt 1 encI w v xs
theorem Ins.below {w w' : World} {v : Value} {xs : List Int} (h : Ins w v xs) (hb : Below w.heap.size w w') : Ins w' v xs := SlAt.below h hb
theorem Ins.at {w : World} {a : Option Addr} {n cap : Nat} {xs : List Int} (h : Ins w (.slice a n cap) xs) {k : Nat} (hk : k < xs.length) :
    ∃ b o f, a = some ⟨b, o, none⟩ ∧ b < w.heap.size ∧ xs[k]? = some f ∧ w.cell? ⟨b, o + k, none⟩ = some (.int .i64 f) := by
  obtain ⟨a', cap', he, _, _, hx⟩ := h
  obtain ⟨rfl, _, _⟩ := Value.slice.inj he
  obtain ⟨b, o, ha, hb, hc⟩ := hx k xs[k] (List.getElem?_eq_getElem hk)
  exact ⟨b, o, _, ha, hb, List.getElem?_eq_getElem hk, by simpa using hc 0 _ rfl⟩
def OwnIn (base : Nat) (w : World) (v : Value) (ys : List Int) : Prop := OwnSl base 3 1 encI w v ys
theorem OwnIn.ins {base : Nat} {w : World} {v : Value} {ys : List Int} (h : OwnIn base w v ys) : Ins w v ys := OwnSl.at (sz := 1) (enc := encI) (fun _ => rfl) h
set_option maxHeartbeats 1000000 in
theorem eqIntS_any (xs ys : List Int) (v u : Value) (w : World) (hs : Ins w v xs) (hu : Ins w u ys) : Calls Tryd.prog 33 #[v, u] w fun e w' => e = .returned (.bool (decide (xs = ys))) ∧ Below w.heap.size w w' := by
  obtain ⟨a, cap, rfl, hlc, hcm, -⟩ := id hs
  obtain ⟨a', cap', rfl, hlc', hcm', -⟩ := id hu
  unfold maxLen at hcm hcm'
  by_cases hne : xs.length = ys.length
  · have HN := Lib.hid hne; clear hne
    obtain ⟨m, hm⟩ : ∃ m, ys.length = m := ⟨_, rfl⟩
    have hm2 : m = xs.length := by rw [← hm]; exact HN.out.symm
    rw [hm, hm2]
    have HM := Lib.hid hm; have HM2 := Lib.hid hm2; clear hm hm2
    go_enter Tryd.func33, Tryd.ntmps33
    go_wp2_with fail
    go_loopw [5] (fun i wr => ∃ k : Nat, k ≤ xs.length ∧ i = .int .i64 k ∧ xs.take k = ys.take k ∧ Below w.heap.size w wr) (fun i _ => xs.length - (intOf i).toNat)
    case atStart => exact ⟨0, by omega, rfl, rfl, by (repeat' (first | with_reducible exact Below.refl _ _ | with_reducible assumption | with_reducible refine Below.setCell ?_ ?_ _ | with_reducible refine Below.alloc ?_ ?_ _ | with_reducible refine Below.drew ?_ | with_reducible refine belDrewN ?_ _ | with_reducible refine Below.trans ?_ (Below.mono (by assumption) ?_) | omega | (simp; omega) | (simp; done)))⟩
    case round =>
      obtain ⟨k, hk, rfl, hq, hbr⟩ := hrel
      have HQ := Lib.hid hq; clear hq
      have hs2 := Lib.hid (hs.below hbr); have hu2 := Lib.hid (hu.below hbr)
      have hzr := hbr.size
      by_cases hlt : k < xs.length
      · have hu3 := hu2.out; rw [HM.out, HM2.out] at hu3
        obtain ⟨b, o, f1, rfl, hbl, hx, c0⟩ := hs2.out.at hlt
        obtain ⟨b', o', g1, rfl, hbl', hy, d0⟩ := hu3.at (show k < ys.length by rw [HM.out, HM2.out]; exact hlt)
        have HX := Lib.hid hx; have HY := Lib.hid hy; clear hx hy hu3
        have i1 : (k : Int) < (xs.length : Int) := by omega
        have i2 : (0 : Int) ≤ (k : Int) := by omega
        by_cases he : f1 = g1
        · have HE := Lib.hid he
          have hee : (f1 == g1) = true := by simpa using he
          clear he
          go_wp2_with fail
          refine wp_region_over (by kernel_rfl) (by kernel_rfl) (fun ov => ?_); have ov0 := fun x => ov x (b) (by (try simp) <;> omega); have ov1 := fun x => ov x (b') (by (try simp) <;> omega); clear ov; (iterate 9 (iterate 8 (try go_big_quiet_step (first | fail)))); refine wpQuiet_nil ?_; intro w9 hw9; have hb_w9 := below_over hw9; clear hw9 ov0 ov1
          have hw9 := hbr.trans (hb_w9.mono hbr.size)
          clear hb_w9
          go_wp2
          go_roundw
          case rel => exact ⟨k + 1, by omega, by go_num, by rw [List.take_add_one, List.take_add_one, HQ.out, HX.out, HY.out, HE.out], hw9⟩
          case measure => simp [intOf]; omega
        · have HE := Lib.hid he
          have hee : (f1 == g1) = false := by simpa using he
          clear he
          go_wp2_with fail
          refine wp_region_over (by kernel_rfl) (by kernel_rfl) (fun ov => ?_); have ov0 := fun x => ov x (b) (by (try simp) <;> omega); have ov1 := fun x => ov x (b') (by (try simp) <;> omega); clear ov; (iterate 9 (iterate 8 (try go_big_quiet_step (first | fail)))); refine wpQuiet_nil ?_; intro w9 hw9; have hb_w9 := below_over hw9; clear hw9 ov0 ov1
          have hw9 := hbr.trans (hb_w9.mono hbr.size)
          clear hb_w9
          go_wp2
          go_ret
          exact ⟨ret_bool (decide_eq_false (fun h => HE.out (by have h1 := HX.out; have h2 := HY.out; rw [h, h2] at h1; exact (Option.some.inj h1).symm))).symm, hw9⟩
      · have HE := Lib.hid (show k = xs.length by omega)
        go_wp2
        go_ret
        exact ⟨ret_bool (decide_eq_true (by have := HQ.out; rw [HE.out, List.take_length, ← HM2.out, ← HM.out, List.take_length] at this; exact this)).symm, hbr⟩
  · have HN := Lib.hid (decide_eq_false (fun h : xs = ys => hne (by rw [h])))
    have hb : ((xs.length : Int) == (ys.length : Int)) = false := by simpa using (by omega : (xs.length : Int) ≠ ys.length)
    clear hne
    go_enter Tryd.func33, Tryd.ntmps33
    go_wp2
    go_ret
    exact ⟨ret_bool HN.out.symm, by (repeat' (first | with_reducible exact Below.refl _ _ | with_reducible assumption | with_reducible refine Below.setCell ?_ ?_ _ | with_reducible refine Below.alloc ?_ ?_ _ | with_reducible refine Below.drew ?_ | with_reducible refine belDrewN ?_ _ | with_reducible refine Below.trans ?_ (Below.mono (by assumption) ?_) | omega | (simp; omega) | (simp; done)))⟩
theorem eqIntS_b {xs ys : List Int} {v u : Value} {w : World} {r : Bool} (hs : Ins w v xs) (hu : Ins w u ys) (h : decide (xs = ys) = r) : Calls Tryd.prog 33 #[v, u] w fun e w' => e = .returned (.bool r) ∧ Below w.heap.size w w' := by
  subst h
  exact eqIntS_any xs ys v u w hs hu
def inmarks (k n : Nat) : List Int := (List.range n).map fun i => ((k + i : Nat) : Int)
theorem inmarks_get {k n i : Nat} (h : i < n) : (inmarks k n)[i]? = some ((k + i : Nat) : Int) := by simp [inmarks, h]
theorem inmarks_len (k n : Nat) : (inmarks k n).length = n := by simp [inmarks]
set_option maxHeartbeats 2000000 in
theorem markIntS_any (base : Nat) (xs : List Int) (v : Value) (m : Nat) (w : World) (ho : OwnIn base w v xs) (hn : xs.length ≤ 1048576) (hm : m ≤ 8388608) : Calls Tryd.prog 36 #[v, .int .i64 (m : Int)] w fun e w' => e = .returned (.int .i64 ((m + xs.length : Nat) : Int)) ∧ OwnIn base w' v (inmarks m xs.length) ∧ w.grownBy w' v.ownBlock := by
  rcases OwnSl.form ho with ⟨rfl, rfl⟩ | ⟨g, cap, rfl, hg, hgs, hlc, hcm, -⟩
  · go_enter Tryd.func36, Tryd.ntmps36
    go_wp2_with fail
    go_loopw [1, 5] (fun q i wr => q = .int .i64 (m : Int) ∧ i = .int .i64 0 ∧ wr = w) (fun _ _ _ => 0)
    case atStart => exact ⟨rfl, rfl, rfl⟩
    case round =>
      obtain ⟨rfl, rfl, rfl⟩ := hrel
      go_wp2
      go_ret
      exact ⟨rfl, ho, World.grownBy.refl _ _⟩
  · unfold maxLen at hcm
    go_enter Tryd.func36, Tryd.ntmps36
    go_wp2_with fail
    go_loopw [1, 5] (fun q i wr => ∃ k : Nat, k ≤ xs.length ∧ i = .int .i64 k ∧ q = .int .i64 ((m + k : Nat) : Int) ∧ OwnIn base wr (.slice (some ⟨g, 0, none⟩) xs.length cap) (inmarks m k ++ xs.drop k) ∧ w.grownBy wr (some g)) (fun _ i _ => xs.length - (intOf i).toNat)
    case atStart => exact ⟨0, by omega, rfl, rfl, by simpa [inmarks] using ho, World.grownBy.refl _ _⟩
    case round =>
      obtain ⟨k, hk, rfl, rfl, hown, hgr⟩ := hrel
      have HO := Lib.hid hown; have HG := Lib.hid hgr; clear hown hgr
      have hgb := HG.out.size
      by_cases hlt : k < xs.length
      · have HL := Lib.hid (show (inmarks m k ++ xs.drop k).length = xs.length by simp [inmarks]; omega)
        obtain ⟨f1, hx⟩ : ∃ f1, xs[k]? = some f1 := ⟨_, List.getElem?_eq_getElem hlt⟩
        have HX := Lib.hid hx; clear hx
        obtain ⟨hst, hgr⟩ := OwnSl.store (sz := 1) (enc := encI) (fun _ => rfl) HL.out.symm HO.out (k := k) (by rw [HL.out]; exact hlt) ((m + k : Nat) : Int)
        have hfz : ∀ j, wr.frozen? ⟨g, j, none⟩ = false := OwnSl.frz HO.out
        have hcz := OwnSl.cell (sz := 1) (enc := encI) (fun _ => rfl) HO.out (k := k) (y := f1) (by rw [List.getElem?_append_right (by simp [inmarks])]; simp [inmarks]; exact HX.out)
        have d0 := hcz 0 _ rfl
        simp only [Nat.add_zero, Nat.mul_one, wSet] at d0 hst hgr
        have HST := Lib.hid hst; have HGR := Lib.hid hgr; clear hst hgr
        clear hcz
        go_wp2
        go_roundw
        case rel =>
          refine ⟨k + 1, by omega, by go_num, by go_num, ?_, ?_⟩
          · have e1 : (inmarks m k ++ xs.drop k).set k ((m + k : Nat) : Int) = inmarks m (k + 1) ++ xs.drop (k + 1) := by
              have e0 : (xs.drop k).set 0 ((m + k : Nat) : Int) = ((m + k : Nat) : Int) :: xs.drop (k + 1) := by rw [List.drop_eq_getElem_cons hlt, List.set_cons_zero]
              rw [List.set_append_right _ _ (by simp [inmarks])]
              simp only [inmarks_len, Nat.sub_self, e0]
              simp [inmarks, List.range_succ]
            rw [← e1]
            refine cast ?_ HST.out
            first | rfl | (congr 1 <;> (repeat (first | rfl | omega | congr 1)))
          · have e2 := HGR.out
            refine ⟨HG.out.os, HG.out.tape, HG.out.output, by simp; omega, fun q hq hne => ?_⟩
            have hne' : q ≠ g := fun e => hne (by rw [e])
            simp [Below.heap_setCell, hne']
            exact HG.out.block q hq hne
        case measure => simp [intOf]; omega
      · have HE := Lib.hid (show k = xs.length by omega)
        go_wp2
        go_ret
        refine ⟨ret_int (by rw [HE.out]), ?_, HG.out⟩
        have := HO.out
        rw [HE.out, List.drop_length, List.append_nil] at this
        exact this
set_option maxHeartbeats 1000000 in
theorem heldIntS_any (n : Nat) (v : Value) (m : Nat) (w : World) (hs : Ins w v (inmarks m n)) (hn : n ≤ 1048576) (hm : m ≤ 8388608) : Calls Tryd.prog 37 #[v, .int .i64 (m : Int)] w fun e w' => e = .returned (.int .i64 ((m + n : Nat) : Int)) ∧ w = w' := by
  obtain ⟨a, cap, rfl, hlc, hcm, -⟩ := id hs
  rw [inmarks_len] at hs hlc ⊢
  unfold maxLen at hcm
  go_enter Tryd.func37, Tryd.ntmps37
  go_wp2_with fail
  go_loop [1, 5] (fun q i => ∃ k : Nat, k ≤ n ∧ i = .int .i64 k ∧ q = .int .i64 ((m + k : Nat) : Int)) (fun _ i => n - (intOf i).toNat)
  case atStart => exact ⟨0, by omega, rfl, rfl⟩
  case round =>
    obtain ⟨k, hk, rfl, rfl⟩ := hrel
    by_cases hlt : k < n
    · obtain ⟨b, o, f1, rfl, hbl, hx, c0⟩ := hs.at (show k < (inmarks m n).length by rw [inmarks_len]; exact hlt)
      rw [inmarks_get hlt] at hx
      cases hx
      go_wp2
      all_goals first | (exfalso; omega) | skip
      go_round
      case rel => exact ⟨k + 1, by omega, by go_num, by go_num⟩
      case measure => simp [intOf]; omega
    · have HE := Lib.hid (show k = n by omega)
      go_wp2
      go_ret
      exact ⟨ret_int (by rw [HE.out]), rfl⟩
end Go.Proofs.YtgmonbhdgnamnaaDoor
