/- Trimmed, swapped lists: plain laws and both walks of TrimTail and SwapFlats. -/
import Derived.Test.YtojafgooobpoiaaDoorFnX
import Derived.Test.YtojafgooobpoiaaDoorCuW
import Derived.Test.YtojafgooobpoiaaDoorBsA
import Derived.Test.YtojafgooobpoiaaDoorFsW
import Derived.Test.YtojafgooobpoiaaDoorFsS
namespace Go.Proofs.YtojafgooobpoiaaDoor
open Go.RowKit
/-- How many rules are left when those at the end with the word r are trimmed. -/
def tcut (fs : List Ft) (r : Bool) : Nat → Nat
  | 0 => 0
  | n + 1 => match fs[n]? with
    | some f => if f.acc = r then tcut fs r n else n + 1
    | none => n + 1
def ttrim (fs : List Ft) (r : Bool) : List Ft := if fvalid fs then fs.take (tcut fs r fs.length) else []
theorem tcut_le (fs : List Ft) (r : Bool) : ∀ n, tcut fs r n ≤ n
  | 0 => Nat.le_refl _
  | n + 1 => by
    have := tcut_le fs r n
    unfold tcut
    split
    · split
      · omega
      · exact Nat.le_refl _
    · exact Nat.le_refl _
theorem tcut_yes {fs : List Ft} {r : Bool} {n : Nat} {f : Ft} (hx : fs[n]? = some f) (h : f.acc = r) : tcut fs r (n + 1) = tcut fs r n := by
  conv => lhs; unfold tcut
  rw [hx]
  simp only
  rw [if_pos h]
theorem tcut_no {fs : List Ft} {r : Bool} {n : Nat} {f : Ft} (hx : fs[n]? = some f) (h : ¬ f.acc = r) : tcut fs r (n + 1) = n + 1 := by
  conv => lhs; unfold tcut
  rw [hx]
  simp only
  rw [if_neg h]
theorem ttrim_valid (fs : List Ft) (r : Bool) : fvalid (ttrim fs r) = true := by
  unfold ttrim
  split
  · rename_i h
    exact fvalid_sub h (by rw [List.length_take]; omega) (fun g hg => List.mem_of_mem_take hg)
  · rfl
theorem SlFr.take {α : Type} {lo sz : Nat} {enc : α → List Value} {w : World} {a : Option Addr} {n cap k : Nat} {xs : List α} (h : SlFr lo sz enc w (.slice a n cap) xs) (hk : k ≤ n) : SlFr lo sz enc w (.slice a k cap) (xs.take k) := by
  obtain ⟨a', cap', he, h1, h2, hx⟩ := h
  obtain ⟨rfl, rfl, rfl⟩ := Value.slice.inj he
  refine ⟨a, cap, by rw [List.length_take, Nat.min_eq_left hk], by rw [List.length_take]; omega, h2, fun j x hj => hx j x (get_take hj).2⟩
theorem Fts.take {lo : Nat} {w : World} {a : Option Addr} {n cap k : Nat} {fs : List Ft} (h : Fts lo w (.slice a n cap) fs) (hk : k ≤ n) : Fts lo w (.slice a k cap) (fs.take k) :=
  let ⟨rs, h1, h2⟩ := h
  ⟨rs.take k, h1.take hk, h2.take k⟩
theorem Ifs.take {lo : Nat} {w : World} {a : Option Addr} {n cap k : Nat} {fs : List Ft} (h : Ifs lo w (.slice a n cap) fs) (hk : k ≤ n) : Ifs lo w (.slice a k cap) (fs.take k) :=
  let ⟨rs, h1, h2⟩ := h
  ⟨rs.take k, h1.take hk, h2.take k⟩
/-- Two neighbours exchanged. -/
def swapAt {α : Type} (l : List α) (k : Nat) : List α := match l[k]?, l[k + 1]? with
  | some x, some y => (l.set k y).set (k + 1) x
  | _, _ => l
theorem swapAt_of {α : Type} {l : List α} {k : Nat} {x y : α} (hx : l[k]? = some x) (hy : l[k + 1]? = some y) : swapAt l k = (l.set k y).set (k + 1) x := by
  unfold swapAt
  rw [hx, hy]
theorem swapAt_len {α : Type} (l : List α) (k : Nat) : (swapAt l k).length = l.length := by
  unfold swapAt
  split
  · simp
  · rfl
theorem swapAt_mem {α : Type} {l : List α} {k : Nat} {z : α} (h : z ∈ swapAt l k) : z ∈ l := by
  unfold swapAt at h
  split at h
  · rename_i x y hx hy
    rcases List.mem_or_eq_of_mem_set h with h | h
    · rcases List.mem_or_eq_of_mem_set h with h | h
      · exact h
      · rw [h]; exact List.mem_of_getElem? hy
    · rw [h]; exact List.mem_of_getElem? hx
  · exact h
theorem All2.swap {α β : Type} {R : α → β → Prop} {la : List α} {lb : List β} (h : All2 R la lb) (k : Nat) : All2 R (swapAt la k) (swapAt lb k) := by
  unfold swapAt
  have hl := h.1
  cases hx : la[k]? with
  | none =>
    have : lb[k]? = none := by rw [List.getElem?_eq_none_iff] at hx ⊢; omega
    rw [this]
    exact h
  | some x =>
    obtain ⟨u, hu⟩ : ∃ u, lb[k]? = some u := ⟨_, List.getElem?_eq_getElem (by have := (List.getElem?_eq_some_iff.1 hx).1; omega)⟩
    cases hy : la[k + 1]? with
    | none =>
      have : lb[k + 1]? = none := by rw [List.getElem?_eq_none_iff] at hy ⊢; omega
      rw [hu, this]
      exact h
    | some y =>
      obtain ⟨v, hv⟩ : ∃ v, lb[k + 1]? = some v := ⟨_, List.getElem?_eq_getElem (by have := (List.getElem?_eq_some_iff.1 hy).1; omega)⟩
      rw [hu, hv]
      exact (h.set (h.2 _ _ _ hy hv) k).set (h.2 _ _ _ hx hu) (k + 1)
/-- What SwapFlats returns. -/
def swfl (fs : List Ft) (n : Int) : List Ft := if fvalid fs then (if cansw fs n then swapAt fs n.toNat else fs) else []
theorem swfl_valid (fs : List Ft) (n : Int) : fvalid (swfl fs n) = true := by
  unfold swfl
  split
  · rename_i h
    split
    · exact fvalid_sub h (by rw [swapAt_len]; exact Nat.le_refl _) (fun g hg => swapAt_mem hg)
    · exact h
  · rfl
theorem spec_ftn {fs : List Ft} (h : ftN fs ≤ 1048576) : fs.length ≤ 1048576 := (ftN_bound h).1
/-- A copy of the first rules of a list. -/
theorem copyFts {lo : Nat} {w : World} {a : Option Addr} {n cap k : Nat} {fs : List Ft} (h : Fts lo w (.slice a n cap) fs) (hk : k ≤ n) (hN : n ≤ 1048576) :
    ∃ v' w', (Builtin.append_ #[23, 23] 23 #[.slice (some ⟨w.heap.size, 0, none⟩) 0 0, .slice a k cap]).run Tryd.prog (w.alloc (.cells #[] 44)) = .ok v' w' ∧
      (∃ rs, OwnSl w.heap.size 44 2 RF.enc w' v' rs ∧ All2 (fun (r : RF) (f : Ft) => Rws lo w r.s f.box ∧ r.acc = f.acc) rs (fs.take k)) ∧ Below w.heap.size w w' := by
  obtain ⟨i0, hi, hz0, hz1, hz2⟩ := info_parts infoFt
  obtain ⟨rs, h1, h2⟩ := h.take hk
  have hq : Below w.heap.size w (w.alloc (.cells #[] 44)) := (Below.refl _ _).alloc (Nat.le_refl _) _
  have hl : rs.length ≤ 1048576 := by
    have := h2.1
    obtain ⟨_, _, he, _, _, _⟩ := h1
    obtain ⟨_, e2, _⟩ := Value.slice.inj he
    omega
  have e2 : rs.length = k := by
    obtain ⟨_, _, he, _, _, _⟩ := h1
    obtain ⟨_, e2, _⟩ := Value.slice.inj he
    exact e2.symm
  obtain ⟨v5, w5, hrun, ho5, hb5⟩ := run_append_copy (sz := 2) (enc := RF.enc) (by omega) (fun _ => rfl) (P := Tryd.prog) (w := w.alloc (.cells #[] 44)) 23 23 44 i0 _ 32 Tryd.underlying23 hi hz0 hz1 hz2 rfl ⟨w.heap.size, 0, none⟩ (litOwn 44 2 RF.enc (base := w.heap.size) (w := w) (Nat.le_refl _)) hq.size (v := .slice a k cap) (xs := rs) (SlFr.at (SlFr.below h1 hq)) (by omega)
  exact ⟨v5, w5, hrun, ⟨rs, ho5, h2⟩, hq.trans (hb5.mono hq.size)⟩
set_option maxHeartbeats 2000000 in
set_option maxRecDepth 100000 in
theorem specTrimTail_e {lo : Nat} {fs R : List Ft} {v : Value} {r : Bool} {w : World} (hs : Fts lo w v fs) (hN : ftN fs ≤ 1048576) (h : ttrim fs r = R) :
    Calls Tryd.prog 29 #[v, .bool r] w fun e w' => ∃ v', e = .returned v' ∧ Fts 0 w' v' R ∧ Below w.heap.size w w' := by
  have HR := Lib.hid h
  clear h
  cases hv : fvalid fs
  · go_enter Tryd.func29, Tryd.ntmps29
    go_wp2_with fail
    refine (ownFlats_any fs v w hs hN).mono ?_
    rintro e w1 ⟨v1, rfl, ho1, hb1⟩
    have HF1 := Lib.hid ho1.fts
    clear ho1
    go_wp2_with fail
    refine (specFV_b HF1.out hv).mono ?_
    rintro e w2 ⟨rfl, hb2⟩
    have hw2 := hb1.trans (hb2.mono hb1.size)
    go_wp2
    go_ret
    refine ⟨_, rfl, ?_, hw2.alloc hw2.size _⟩
    rw [← HR.out, ttrim, hv]
    exact ⟨[], (OwnSl.fr (sz := 2) (enc := RF.enc) (fun _ => rfl) (litOwn 44 2 RF.enc (base := 0) (Nat.zero_le _))), All2.nil⟩
  · have HV := Lib.hid hv
    obtain ⟨i0, hi, hz0, hz1, hz2⟩ := info_parts infoFt
    go_enter Tryd.func29, Tryd.ntmps29
    go_wp2_with fail
    refine (ownFlats_any fs v w hs hN).mono ?_
    rintro e w1 ⟨v1, rfl, ho1, hb1⟩
    obtain ⟨a, cap, rfl, hlc, hcm⟩ := ho1.form
    unfold maxLen at hcm
    have HF1 := Lib.hid ho1.fts
    generalize hn : fs.length = n at *
    have HNN := Lib.hid hn
    clear ho1
    go_wp2_with fail
    refine (specFV_b HF1.out hv).mono ?_
    rintro e w2 ⟨rfl, hb2⟩
    have hw2 := hb1.trans (hb2.mono hb1.size)
    have HF2 := Lib.hid (HF1.out.below hb2)
    have hn60 : n ≤ 60 := by rw [← HNN.out]; exact fvalid_60 HV.out
    clear hb1 hb2 HF1 hv hn
    go_wp2_with fail
    go_loop [5] (fun i => ∃ k : Nat, k ≤ n ∧ i = .int .i64 k ∧ Hid (tcut fs r n = tcut fs r k)) (fun i => (intOf i).toNat)
    case atStart => exact ⟨n, Nat.le_refl _, rfl, Lib.hid rfl⟩
    case round =>
      obtain ⟨k, hk, rfl, HK⟩ := hrel
      have done' : ∀ j : Nat, tcut fs r n = j → j ≤ n → True := fun _ _ _ => trivial
      clear done'
      obtain ⟨rs, hsl, hall⟩ := HF2.out
      by_cases h0 : 0 < k
      · obtain ⟨j, rfl⟩ : ∃ j, k = j + 1 := ⟨k - 1, by omega⟩
        obtain ⟨f, hx⟩ : ∃ f, fs[j]? = some f := ⟨_, List.getElem?_eq_getElem (by rw [HNN.out]; omega)⟩
        obtain ⟨b', o, sv, rfl, hbl, c0, c1, hsv⟩ := HF2.out.at hx
        obtain ⟨p, hp⟩ : ∃ p, f.acc = p := ⟨_, rfl⟩
        rw [hp] at c1
        have i1 : (j : Int) < (n : Int) := by omega
        have i2 : (0 : Int) ≤ (j : Int) := by omega
        have i3 : (0 : Int) < (j : Int) + 1 := by omega
        by_cases hpr : p = r
        · have HE := Lib.hid (HK.out.trans (tcut_yes hx (hp.trans hpr)))
          subst hpr
          clear hsv hx hp
          go_wp2
          go_round
          case rel => exact ⟨j, by omega, by go_num, HE⟩
          case measure => simp [intOf]
        · have HE := Lib.hid (HK.out.trans (tcut_no hx (by rw [hp]; exact hpr)))
          have hb2 : (p == r) = false := by cases p <;> cases r <;> simp_all
          clear hsv hx hp
          obtain ⟨v5, w5, hrun, ⟨rs5, ho5, ha5⟩, hb5⟩ := copyFts (k := j + 1) HF2.out hk (by omega)
          rw [Int.natCast_add] at *
          go_wp2_with (at_builtin; refine wpList_append_run rfl _ _ 23 rfl rfl rfl hrun ?_)
          go_ret
          refine ⟨_, rfl, ⟨rs5, (OwnSl.fr (sz := 2) (enc := RF.enc) (fun _ => rfl) ho5).mono (Nat.zero_le _), ?_⟩, hw2.trans (hb5.mono hw2.size)⟩
          rw [← HR.out, ttrim, HV.out, if_pos rfl, HNN.out, HE.out]
          exact ha5.mono (fun _ _ h => ⟨(h.1.mono (Nat.zero_le _)).below hb5, h.2⟩)
      · obtain rfl : k = 0 := by omega
        obtain ⟨v5, w5, hrun, ⟨rs5, ho5, ha5⟩, hb5⟩ := copyFts (k := 0) HF2.out hk (by omega)
        have HE := Lib.hid HK.out
        go_wp2_with (at_builtin; refine wpList_append_run rfl _ _ 23 rfl rfl rfl hrun ?_)
        go_ret
        refine ⟨_, rfl, ⟨rs5, (OwnSl.fr (sz := 2) (enc := RF.enc) (fun _ => rfl) ho5).mono (Nat.zero_le _), ?_⟩, hw2.trans (hb5.mono hw2.size)⟩
        rw [← HR.out, ttrim, HV.out, if_pos rfl, HNN.out, HE.out]
        exact ha5.mono (fun _ _ h => ⟨(h.1.mono (Nat.zero_le _)).below hb5, h.2⟩)
set_option maxHeartbeats 2000000 in
set_option maxRecDepth 100000 in
theorem trimEnd_e {lo : Nat} {fs R : List Ft} {v : Value} {r : Bool} {w : World} (hs : Ifs lo w v fs) (hl : fs.length ≤ 1000000) (h : fs.take (tcut fs r fs.length) = R) :
    Calls Tryd.prog 63 #[v, .bool r] w fun e w' => ∃ v', e = .returned v' ∧ Ifs lo w' v' R ∧ Below w.heap.size w w' := by
  obtain ⟨a, cap, rfl, hlc, hcm⟩ := hs.form
  unfold maxLen at hcm
  generalize hn : fs.length = n at *
  have HNN := Lib.hid hn
  have HS := Lib.hid hs
  have HR := Lib.hid h
  clear hn hs h
  go_enter Tryd.func63, Tryd.ntmps63
  go_wp2_with fail
  go_loop [5] (fun i => ∃ k : Nat, k ≤ n ∧ i = .int .i64 k ∧ Hid (tcut fs r n = tcut fs r k)) (fun i => (intOf i).toNat)
  case atStart => exact ⟨n, Nat.le_refl _, rfl, Lib.hid rfl⟩
  case round =>
    obtain ⟨k, hk, rfl, HK⟩ := hrel
    by_cases h0 : 0 < k
    · obtain ⟨j, rfl⟩ : ∃ j, k = j + 1 := ⟨k - 1, by omega⟩
      obtain ⟨f, hx⟩ : ∃ f, fs[j]? = some f := ⟨_, List.getElem?_eq_getElem (by rw [HNN.out]; omega)⟩
      obtain ⟨b', o, v0, v1, v2, v3, rfl, hbl, c0, c1, c2, c3, c4, hsv⟩ := HS.out.at hx
      obtain ⟨p, hp⟩ : ∃ p, f.acc = p := ⟨_, rfl⟩
      rw [hp] at c4
      have i1 : (j : Int) < (n : Int) := by omega
      have i2 : (0 : Int) ≤ (j : Int) := by omega
      have i3 : (0 : Int) < (j : Int) + 1 := by omega
      by_cases hpr : p = r
      · have HE := Lib.hid (HK.out.trans (tcut_yes hx (hp.trans hpr)))
        subst hpr
        clear hsv hx hp
        go_wp2
        go_round
        case rel => exact ⟨j, by omega, by go_num, HE⟩
        case measure => simp [intOf]
      · have HE := Lib.hid (HK.out.trans (tcut_no hx (by rw [hp]; exact hpr)))
        have hb2 : (p == r) = false := by cases p <;> cases r <;> simp_all
        clear hsv hx hp
        have HT := Lib.hid (HS.out.take hk)
        rw [Int.natCast_add] at *
        go_wp2
        go_ret
        refine ⟨_, rfl, ?_, Below.refl _ _⟩
        rw [← HR.out, HE.out]
        exact HT.out
    · obtain rfl : k = 0 := by omega
      have HT := Lib.hid (HS.out.take hk)
      have HE := Lib.hid HK.out
      go_wp2
      go_ret
      refine ⟨_, rfl, ?_, Below.refl _ _⟩
      rw [← HR.out, HE.out]
      exact HT.out
theorem newFlats_e {lo : Nat} {fs : List Ft} {v : Value} {w0 w : World} (hs : Ifs lo w v fs) (hv : fvalid fs = true) (hb : Below w0.heap.size w0 w) :
    Calls Tryd.prog 38 #[v] w fun e w' => ∃ v', e = .returned v' ∧ GFs w' w0.heap.size w'.heap.size v' fs ∧ Below w0.heap.size w0 w' := by
  refine (newFlats_any fs v w hs (fun k f hf j xs hx => by have := bvalid_lens (fvalid_at hv hf) j xs hx; omega) (by have := fvalid_60 hv; omega)).mono ?_
  rintro e w' ⟨v', rfl, h1, h2⟩
  exact ⟨v', rfl, OwnG.low h1 hb.size, hb.trans (h2.mono hb.size)⟩
set_option maxHeartbeats 1000000 in
theorem implTrimTail_e {lo : Nat} {fs R : List Ft} {v : Value} {r : Bool} {w : World} (hs : Fts lo w v fs) (ht : Tab w) (h : ttrim fs r = R) :
    Calls Tryd.prog 28 #[v, .bool r] w fun e w' => ∃ v', e = .returned v' ∧ GFs w' w.heap.size w'.heap.size v' R ∧ Below w.heap.size w w' := by
  have HR := Lib.hid h
  cases hv : fvalid fs
  · go_enter Tryd.func28, Tryd.ntmps28
    go_wp2_with fail
    refine (implFV_b hs ht hv).mono ?_
    rintro e w1 ⟨rfl, hb1⟩
    go_wp2
    go_ret
    refine ⟨_, rfl, ?_, hb1⟩
    rw [← HR.out, ttrim, hv]
    exact OwnG.nil (OwnSl.nil _ _ _ _ _) (fun z hz => by cases hz) hb1.size
  · have HV := Lib.hid hv
    have HRV := Lib.hid (show fvalid R = true by rw [← h]; exact ttrim_valid fs r)
    have HT := Lib.hid (show fs.take (tcut fs r fs.length) = R by rw [← h, ttrim, hv]; rfl)
    go_enter Tryd.func28, Tryd.ntmps28
    go_wp2_with fail
    refine (implFV_b hs ht hv).mono ?_
    rintro e w1 ⟨rfl, hb1⟩
    have hs1 := hs.below hb1
    clear hv h
    go_wp2_with fail
    refine (flatsOf_any fs v _ hs1 (fvalid_four HV.out) (fvalid_len HV.out)).mono ?_
    rintro e w2 ⟨v2, rfl, ho2, hb2⟩
    have hw2 := hb1.trans (hb2.mono hb1.size)
    clear hb2
    go_wp2_with fail
    refine (trimEnd_e ho2 (fvalid_len HV.out) HT.out).mono ?_
    rintro e w3 ⟨v3, rfl, ho3, hb3⟩
    have hw3 := hw2.trans (hb3.mono hw2.size)
    clear hb3
    go_wp2_with fail
    refine (newFlats_e ho3 HRV.out hw3).mono ?_
    rintro e w4 ⟨v4, rfl, ho4, hw4⟩
    have HO4 := Lib.hid ho4
    clear ho4
    go_wp2
    go_ret
    exact ⟨_, rfl, HO4.out, hw4⟩
theorem specCS_r {lo : Nat} {fs : List Ft} {v : Value} {n : Int} {w : World} {r : Bool} (hs : Fts lo w v fs) (h : cansw fs n = r) :
    Calls Tryd.prog 69 #[v, .int .i64 n] w fun e w' => e = .returned (.bool r) ∧ Below w.heap.size w w' := by
  subst h
  exact specCS_any fs v n w hs
theorem cansw_range {fs : List Ft} {n : Int} (h : cansw fs n = true) : fvalid fs = true ∧ 0 ≤ n ∧ n + 1 < fs.length := by
  unfold cansw at h
  rw [Bool.and_eq_true, Bool.and_eq_true, inB_iff] at h
  exact ⟨h.1.1, by omega, by omega⟩
set_option maxHeartbeats 2000000 in
set_option maxRecDepth 100000 in
theorem specSwapFlats_e {lo : Nat} {fs R : List Ft} {v : Value} {n : Int} {q : Bool} {w : World} (hs : Fts lo w v fs) (hN : ftN fs ≤ 1048576) (h : swfl fs n = R) (hq : cansw fs n = q) :
    Calls Tryd.prog 70 #[v, .int .i64 n] w fun e w' => ∃ v', e = .returned (.tuple #[v', .bool q]) ∧ Fts w.heap.size w' v' R ∧ Below w.heap.size w w' := by
  have HR := Lib.hid h
  have HQ := Lib.hid hq
  clear h hq
  cases hv : fvalid fs
  · have hqf : q = false := by rw [← HQ.out, cansw, hv]; rfl
    subst hqf
    go_enter Tryd.func70, Tryd.ntmps70
    go_wp2_with fail
    refine (ownFlats_any fs v w hs hN).mono ?_
    rintro e w1 ⟨v1, rfl, ho1, hb1⟩
    have HF1 := Lib.hid ho1.fts
    clear ho1
    go_wp2_with fail
    refine (specFV_b HF1.out hv).mono ?_
    rintro e w2 ⟨rfl, hb2⟩
    have hw2 := hb1.trans (hb2.mono hb1.size)
    go_wp2
    go_ret2
    refine ⟨_, rfl, ?_, hw2.alloc hw2.size _⟩
    rw [← HR.out, swfl, hv]
    exact ⟨[], (OwnSl.fr (sz := 2) (enc := RF.enc) (fun _ => rfl) (litOwn 44 2 RF.enc hw2.size)), All2.nil⟩
  · have HV := Lib.hid hv
    go_enter Tryd.func70, Tryd.ntmps70
    go_wp2_with fail
    refine (ownFlats_any fs v w hs hN).mono ?_
    rintro e w1 ⟨v1, rfl, ho1, hb1⟩
    obtain ⟨a, cap, rfl, hlc, hcm⟩ := ho1.form
    unfold maxLen at hcm
    have HF1 := Lib.hid ho1.fts
    generalize hn : fs.length = m at *
    have HNN := Lib.hid hn
    clear ho1
    go_wp2_with fail
    refine (specFV_b HF1.out hv).mono ?_
    rintro e w2 ⟨rfl, hb2⟩
    have hw2 := hb1.trans (hb2.mono hb1.size)
    have HF2 := Lib.hid (HF1.out.below hb2)
    have hn60 : m ≤ 60 := by rw [← HNN.out]; exact fvalid_60 HV.out
    clear hb1 hb2 HF1 hv hn
    obtain ⟨v5, w5, hrun, ⟨rs5, ho5, ha5⟩, hb5⟩ := copyFts (k := m) HF2.out (Nat.le_refl _) (by omega)
    rw [List.take_of_length_le (by rw [HNN.out]; exact Nat.le_refl _)] at ha5
    have hw5 := hw2.trans (hb5.mono hw2.size)
    have HF5 := Lib.hid (HF2.out.below hb5)
    have HA5 := Lib.hid ha5
    have HO5 := Lib.hid ho5
    have HB5 := Lib.hid hb5
    obtain ⟨x5, n5, c5, rfl⟩ : ∃ x n c, v5 = .slice x n c := by
      rcases OwnSl.form ho5 with ⟨h, _⟩ | ⟨g, cp, h, _⟩
      · exact ⟨_, _, _, h⟩
      · exact ⟨_, _, _, h⟩
    clear ha5 hb5 ho5
    go_wp2_with (at_builtin; refine wpList_append_run rfl _ _ 23 rfl rfl rfl hrun ?_)
    refine (specCS_r HF5.out HQ.out).mono ?_
    rintro e w6 ⟨rfl, hb6⟩
    have hw6 := hw5.trans (hb6.mono hw5.size)
    have HO6 := Lib.hid (OwnSl.kept HO5.out hb6)
    have HF6 := Lib.hid (HF5.out.below hb6)
    have HB6 := Lib.hid (HB5.out.trans (hb6.mono HB5.out.size))
    clear hb6 hrun
    cases q
    · have HE := Lib.hid (show fs = R by rw [← HR.out, swfl, HV.out, HQ.out]; rfl)
      go_wp2
      go_ret2
      refine ⟨_, rfl, ⟨rs5, (OwnSl.fr (sz := 2) (enc := RF.enc) (fun _ => rfl) HO6.out).mono hw2.size, ?_⟩, hw6⟩
      rw [← HE.out]
      exact HA5.out.mono (fun _ _ h => ⟨h.1.below HB6.out, h.2⟩)
    · obtain ⟨-, hn0, hn1⟩ := cansw_range HQ.out
      rw [HNN.out] at hn1
      obtain ⟨k, rfl⟩ : ∃ k : Nat, n = k := ⟨n.toNat, by omega⟩
      have i1 : (k : Int) < (m : Int) := by omega
      have i2 : (0 : Int) ≤ (k : Int) := by omega
      have i3 : (k : Int) + 1 < (m : Int) := by omega
      have hl5 : rs5.length = m := by rw [HA5.out.1, HNN.out]
      obtain ⟨f, hf⟩ : ∃ f, fs[k]? = some f := ⟨_, List.getElem?_eq_getElem (by rw [HNN.out]; omega)⟩
      obtain ⟨g, hg⟩ : ∃ g, fs[k + 1]? = some g := ⟨_, List.getElem?_eq_getElem (by rw [HNN.out]; omega)⟩
      obtain ⟨pf, hpf⟩ : ∃ p, f.acc = p := ⟨_, rfl⟩
      obtain ⟨pg, hpg⟩ : ∃ p, g.acc = p := ⟨_, rfl⟩
      obtain ⟨b, o, sv, rfl, hbl, c0, c1, hsv⟩ := HF2.out.at hf
      obtain ⟨b', o', tv, he, hbl', d0, d1, htv⟩ := HF2.out.at hg
      obtain ⟨rfl, rfl, -⟩ := Addr.mk.inj (Option.some.inj he)
      rw [hpf] at c1
      rw [hpg] at d1
      obtain ⟨sa, sc, rfl, -, -⟩ := hsv.form
      obtain ⟨ta, tc, rfl, -, -⟩ := htv.form
      rcases OwnSl.form HO6.out with ⟨_, h0⟩ | ⟨g5, cap5, hv5, hg1, hg2, hg3, hg4, hg5⟩
      · rw [h0] at hl5; simp at hl5; omega
      obtain ⟨rfl, rfl, rfl⟩ := Value.slice.inj hv5
      have HSF := Lib.hid (show Rws w.heap.size w2 (.slice sa f.box.length sc) f.box ∧ pf = f.acc from ⟨by assumption, hpf.symm⟩)
      have HTG := Lib.hid (show Rws w.heap.size w2 (.slice ta g.box.length tc) g.box ∧ pg = g.acc from ⟨by assumption, hpg.symm⟩)
      obtain ⟨hst7, hgr7⟩ := OwnSl.store (sz := 2) (enc := RF.enc) (fun _ => rfl) rfl HO6.out (k := k) (by omega) ⟨.slice ta g.box.length tc, pg⟩
      simp only [wSet] at hst7 hgr7
      obtain ⟨W7, hW7⟩ : ∃ W7, (w6.setCell ⟨g5, k * 2, none⟩ (.slice ta g.box.length tc)).setCell ⟨g5, k * 2 + 1, none⟩ (.bool pg) = W7 := ⟨_, rfl⟩
      rw [hW7] at hst7 hgr7
      have hl7 : (rs5.set k (⟨.slice ta g.box.length tc, pg⟩ : RF)).length = rs5.length := by simp
      obtain ⟨hst8, hgr8⟩ := OwnSl.store (sz := 2) (enc := RF.enc) (fun _ => rfl) hl7.symm hst7 (k := k + 1) (by omega) ⟨.slice sa f.box.length sc, pf⟩
      simp only [wSet] at hst8 hgr8
      obtain ⟨W8, hW8⟩ : ∃ W8, (W7.setCell ⟨g5, (k + 1) * 2, none⟩ (.slice sa f.box.length sc)).setCell ⟨g5, (k + 1) * 2 + 1, none⟩ (.bool pf) = W8 := ⟨_, rfl⟩
      rw [hW8] at hst8 hgr8
      have hB7 : Below w2.heap.size w2 W7 := HB6.out.grown hgr7 HB6.out.size (fun z hz => by cases hz; exact hg1)
      have hB8 : Below w2.heap.size w2 W8 := hB7.grown hgr8 hB7.size (fun z hz => by cases hz; exact hg1)
      have e0 := (HB6.out.cell (p := ⟨b, o + (k + 1) * 2, none⟩) hbl).trans d0
      have e1 := (HB6.out.cell (p := ⟨b, o + (k + 1) * 2 + 1, none⟩) hbl).trans d1
      have e2 := (hB7.cell (p := ⟨b, o + k * 2, none⟩) hbl).trans c0
      have e3 := (hB7.cell (p := ⟨b, o + k * 2 + 1, none⟩) hbl).trans c1
      obtain ⟨r1, hr1⟩ : ∃ r1, rs5[k]? = some r1 := ⟨_, List.getElem?_eq_getElem (by omega)⟩
      obtain ⟨r2, hr2⟩ : ∃ r2, (rs5.set k (⟨.slice ta g.box.length tc, pg⟩ : RF))[k + 1]? = some r2 := ⟨_, List.getElem?_eq_getElem (by rw [hl7]; omega)⟩
      have q0 := OwnSl.cell (sz := 2) (enc := RF.enc) (fun _ => rfl) HO6.out hr1 0 _ rfl
      have q1 := OwnSl.cell (sz := 2) (enc := RF.enc) (fun _ => rfl) HO6.out hr1 1 _ rfl
      have q2 := OwnSl.cell (sz := 2) (enc := RF.enc) (fun _ => rfl) hst7 hr2 0 _ rfl
      have q3 := OwnSl.cell (sz := 2) (enc := RF.enc) (fun _ => rfl) hst7 hr2 1 _ rfl
      have y6 : ∀ j, w6.frozen? ⟨g5, j, none⟩ = false := OwnSl.frz HO6.out
      have y7 : ∀ j, W7.frozen? ⟨g5, j, none⟩ = false := OwnSl.frz hst7
      simp only [Nat.add_zero] at q0 q2
      have hw8 : Below w.heap.size w W8 := hw2.trans (hB8.mono hw2.size)
      have HE := Lib.hid (show swapAt fs k = R by rw [← HR.out, swfl, HV.out, HQ.out]; rfl)
      have HSW := Lib.hid (swapAt_of hf hg)
      rw [hl5] at hst8
      have HS8 := Lib.hid hst8
      have HB8 := Lib.hid hB8
      clear hsv htv hpf hpg c0 c1 d0 d1 hst7 hst8 hgr7 hgr8 hr1 hr2 hB7 hB8 hf hg he hv5
      go_wp2
      go_ret2
      refine ⟨_, rfl, ⟨_, (OwnSl.fr (sz := 2) (enc := RF.enc) (fun _ => rfl) HS8.out).mono hw2.size, ?_⟩, hw8⟩
      rw [← HE.out, HSW.out]
      have hA := (HA5.out.set (x := (⟨.slice ta g.box.length tc, pg⟩ : RF)) (y := g) HTG.out k).set (x := (⟨.slice sa f.box.length sc, pf⟩ : RF)) (y := f) HSF.out (k + 1)
      exact hA.mono (fun _ _ h => ⟨h.1.below HB8.out, h.2⟩)
end Go.Proofs.YtojafgooobpoiaaDoor
