/- Trimmed, swapped lists: plain laws and both walks of TrimTail and SwapFlats. -/
import Derived.Test.YtajcogpfmpehkaaGreatDoorFnX
import Derived.Test.YtajcogpfmpehkaaGreatDoorCuW
import Derived.Test.YtajcogpfmpehkaaGreatDoorBsA
namespace Go.Proofs.YtajcogpfmpehkaaGreatDoor
open Go.RowKit
/-- How many rules are left when those at the end with the word r are trimmed. -/
def tcut (fs : List Ft) (r : Bool) : Nat → Nat
  | 0 => 0
  | n + 1 => match fs[n]? with
    | some f => if f.acc = r then tcut fs r n else n + 1
    | none => n + 1
def ttrim (fs : List Ft) (r : Bool) : List Ft := if fvalid fs then fs.take (tcut fs r fs.length) else []
theorem tcut_yes {fs : List Ft} {r : Bool} {n : Nat} {f : Ft} (hx : fs[n]? = some f) (h : f.acc = r) : tcut fs r (n + 1) = tcut fs r n := by
  conv => lhs; unfold tcut
  rw [hx]
  simp only
  rw [if_pos h]
theorem tcut_no {fs : List Ft} {r : Bool} {n : Nat} {f : Ft} (hx : fs[n]? = some f) (h : ¬ f.acc = r) : tcut fs r (n + 1) = n + 1 := by
  conv => lhs; unfold tcut
  rw [hx]
  simp only
  rw [if_neg h]
theorem ttrim_valid (fs : List Ft) (r : Bool) : fvalid (ttrim fs r) = true := by
  unfold ttrim
  split
  · rename_i h
    exact fvalid_sub h (by rw [List.length_take]; omega) (fun g hg => List.mem_of_mem_take hg)
  · rfl
theorem SlFr.take {α : Type} {lo sz : Nat} {enc : α → List Value} {w : World} {a : Option Addr} {n cap k : Nat} {xs : List α} (h : SlFr lo sz enc w (.slice a n cap) xs) (hk : k ≤ n) : SlFr lo sz enc w (.slice a k cap) (xs.take k) := by
  obtain ⟨a', cap', he, h1, h2, hx⟩ := h
  obtain ⟨rfl, rfl, rfl⟩ := Value.slice.inj he
  refine ⟨a, cap, by rw [List.length_take, Nat.min_eq_left hk], by rw [List.length_take]; omega, h2, fun j x hj => hx j x (get_take hj).2⟩
theorem Fts.take {lo : Nat} {w : World} {a : Option Addr} {n cap k : Nat} {fs : List Ft} (h : Fts lo w (.slice a n cap) fs) (hk : k ≤ n) : Fts lo w (.slice a k cap) (fs.take k) :=
  let ⟨rs, h1, h2⟩ := h
  ⟨rs.take k, h1.take hk, h2.take k⟩
theorem Ifs.take {lo : Nat} {w : World} {a : Option Addr} {n cap k : Nat} {fs : List Ft} (h : Ifs lo w (.slice a n cap) fs) (hk : k ≤ n) : Ifs lo w (.slice a k cap) (fs.take k) :=
  let ⟨rs, h1, h2⟩ := h
  ⟨rs.take k, h1.take hk, h2.take k⟩
/-- Two neighbours exchanged. -/
def swapAt {α : Type} (l : List α) (k : Nat) : List α := match l[k]?, l[k + 1]? with
  | some x, some y => (l.set k y).set (k + 1) x
  | _, _ => l
/-- What SwapFlats returns. -/
def swfl (fs : List Ft) (n : Int) : List Ft := if fvalid fs then (if cansw fs n then swapAt fs n.toNat else fs) else []
/-- A copy of the first rules of a list. -/
theorem copyFts {lo : Nat} {w : World} {a : Option Addr} {n cap k : Nat} {fs : List Ft} (h : Fts lo w (.slice a n cap) fs) (hk : k ≤ n) (hN : n ≤ 1048576) :
    ∃ v' w', (Builtin.append_ #[23, 23] 23 #[.slice (some ⟨w.heap.size, 0, none⟩) 0 0, .slice a k cap]).run Tryz.prog (w.alloc (.cells #[] 81)) = .ok v' w' ∧
      (∃ rs, OwnSl w.heap.size 81 2 RF.enc w' v' rs ∧ All2 (fun (r : RF) (f : Ft) => Rws lo w r.s f.box ∧ r.acc = f.acc) rs (fs.take k)) ∧ Below w.heap.size w w' := by
  obtain ⟨i0, hi, hz0, hz1, hz2⟩ := info_parts infoFt
  obtain ⟨rs, h1, h2⟩ := h.take hk
  have hq : Below w.heap.size w (w.alloc (.cells #[] 81)) := (Below.refl _ _).alloc (Nat.le_refl _) _
  have hl : rs.length ≤ 1048576 := by
    have := h2.1
    obtain ⟨_, _, he, _, _, _⟩ := h1
    obtain ⟨_, e2, _⟩ := Value.slice.inj he
    omega
  have e2 : rs.length = k := by
    obtain ⟨_, _, he, _, _, _⟩ := h1
    obtain ⟨_, e2, _⟩ := Value.slice.inj he
    exact e2.symm
  obtain ⟨v5, w5, hrun, ho5, hb5⟩ := run_append_copy (sz := 2) (enc := RF.enc) (by omega) (fun _ => rfl) (P := Tryz.prog) (w := w.alloc (.cells #[] 81)) 23 23 81 i0 _ 32 Tryz.underlying23 hi hz0 hz1 hz2 rfl ⟨w.heap.size, 0, none⟩ (litOwn 81 2 RF.enc (base := w.heap.size) (w := w) (Nat.le_refl _)) hq.size (v := .slice a k cap) (xs := rs) (SlFr.at (SlFr.below h1 hq)) (by omega)
  exact ⟨v5, w5, hrun, ⟨rs, ho5, h2⟩, hq.trans (hb5.mono hq.size)⟩
set_option maxHeartbeats 2000000 in
set_option maxRecDepth 100000 in
theorem specTrimTail_e {lo : Nat} {fs R : List Ft} {v : Value} {r : Bool} {w : World} (hs : Fts lo w v fs) (hN : ftN fs ≤ 1048576) (h : ttrim fs r = R) :
    Calls Tryz.prog 74 #[v, .bool r] w fun e w' => ∃ v', e = .returned v' ∧ Fts 0 w' v' R ∧ Below w.heap.size w w' := by
  have HR := Lib.hid h
  clear h
  cases hv : fvalid fs
  · go_enter Tryz.func74, Tryz.ntmps74
    go_wp2_with fail
    refine (ownFlats_any fs v w hs hN).mono ?_
    rintro e w1 ⟨v1, rfl, ho1, hb1⟩
    have HF1 := Lib.hid ho1.fts
    clear ho1
    go_wp2_with fail
    refine (specFV_b HF1.out hv).mono ?_
    rintro e w2 ⟨rfl, hb2⟩
    have hw2 := hb1.trans (hb2.mono hb1.size)
    go_wp2
    go_ret
    refine ⟨_, rfl, ?_, hw2.alloc hw2.size _⟩
    rw [← HR.out, ttrim, hv]
    exact ⟨[], (OwnSl.fr (sz := 2) (enc := RF.enc) (fun _ => rfl) (litOwn 81 2 RF.enc (base := 0) (Nat.zero_le _))), All2.nil⟩
  · have HV := Lib.hid hv
    obtain ⟨i0, hi, hz0, hz1, hz2⟩ := info_parts infoFt
    go_enter Tryz.func74, Tryz.ntmps74
    go_wp2_with fail
    refine (ownFlats_any fs v w hs hN).mono ?_
    rintro e w1 ⟨v1, rfl, ho1, hb1⟩
    obtain ⟨a, cap, rfl, hlc, hcm⟩ := ho1.form
    unfold maxLen at hcm
    have HF1 := Lib.hid ho1.fts
    generalize hn : fs.length = n at *
    have HNN := Lib.hid hn
    clear ho1
    go_wp2_with fail
    refine (specFV_b HF1.out hv).mono ?_
    rintro e w2 ⟨rfl, hb2⟩
    have hw2 := hb1.trans (hb2.mono hb1.size)
    have HF2 := Lib.hid (HF1.out.below hb2)
    have hn60 : n ≤ 60 := by rw [← HNN.out]; exact fvalid_60 HV.out
    clear hb1 hb2 HF1 hv hn
    go_wp2_with fail
    go_loop [5] (fun i => ∃ k : Nat, k ≤ n ∧ i = .int .i64 k ∧ Hid (tcut fs r n = tcut fs r k)) (fun i => (intOf i).toNat)
    case atStart => exact ⟨n, Nat.le_refl _, rfl, Lib.hid rfl⟩
    case round =>
      obtain ⟨k, hk, rfl, HK⟩ := hrel
      have done' : ∀ j : Nat, tcut fs r n = j → j ≤ n → True := fun _ _ _ => trivial
      clear done'
      obtain ⟨rs, hsl, hall⟩ := HF2.out
      by_cases h0 : 0 < k
      · obtain ⟨j, rfl⟩ : ∃ j, k = j + 1 := ⟨k - 1, by omega⟩
        obtain ⟨f, hx⟩ : ∃ f, fs[j]? = some f := ⟨_, List.getElem?_eq_getElem (by rw [HNN.out]; omega)⟩
        obtain ⟨b', o, sv, rfl, hbl, c0, c1, hsv⟩ := HF2.out.at hx
        obtain ⟨p, hp⟩ : ∃ p, f.acc = p := ⟨_, rfl⟩
        rw [hp] at c1
        have i1 : (j : Int) < (n : Int) := by omega
        have i2 : (0 : Int) ≤ (j : Int) := by omega
        have i3 : (0 : Int) < (j : Int) + 1 := by omega
        by_cases hpr : p = r
        · have HE := Lib.hid (HK.out.trans (tcut_yes hx (hp.trans hpr)))
          subst hpr
          clear hsv hx hp
          go_wp2
          go_round
          case rel => exact ⟨j, by omega, by go_num, HE⟩
          case measure => simp [intOf]
        · have HE := Lib.hid (HK.out.trans (tcut_no hx (by rw [hp]; exact hpr)))
          have hb2 : (p == r) = false := by cases p <;> cases r <;> simp_all
          clear hsv hx hp
          obtain ⟨v5, w5, hrun, ⟨rs5, ho5, ha5⟩, hb5⟩ := copyFts (k := j + 1) HF2.out hk (by omega)
          rw [Int.natCast_add] at *
          go_wp2_with (at_builtin; refine wpList_append_run rfl _ _ 23 rfl rfl rfl hrun ?_)
          go_ret
          refine ⟨_, rfl, ⟨rs5, (OwnSl.fr (sz := 2) (enc := RF.enc) (fun _ => rfl) ho5).mono (Nat.zero_le _), ?_⟩, hw2.trans (hb5.mono hw2.size)⟩
          rw [← HR.out, ttrim, HV.out, if_pos rfl, HNN.out, HE.out]
          exact ha5.mono (fun _ _ h => ⟨(h.1.mono (Nat.zero_le _)).below hb5, h.2⟩)
      · obtain rfl : k = 0 := by omega
        obtain ⟨v5, w5, hrun, ⟨rs5, ho5, ha5⟩, hb5⟩ := copyFts (k := 0) HF2.out hk (by omega)
        have HE := Lib.hid HK.out
        go_wp2_with (at_builtin; refine wpList_append_run rfl _ _ 23 rfl rfl rfl hrun ?_)
        go_ret
        refine ⟨_, rfl, ⟨rs5, (OwnSl.fr (sz := 2) (enc := RF.enc) (fun _ => rfl) ho5).mono (Nat.zero_le _), ?_⟩, hw2.trans (hb5.mono hw2.size)⟩
        rw [← HR.out, ttrim, HV.out, if_pos rfl, HNN.out, HE.out]
        exact ha5.mono (fun _ _ h => ⟨(h.1.mono (Nat.zero_le _)).below hb5, h.2⟩)
end Go.Proofs.YtajcogpfmpehkaaGreatDoor
