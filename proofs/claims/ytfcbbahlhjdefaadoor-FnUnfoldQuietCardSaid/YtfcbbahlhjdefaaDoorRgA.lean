/- Sets that lie in no block of a kind; results of the sweep. -/
import Derived.Test.YtfcbbahlhjdefaaDoorFnX
import Derived.Test.YtfcbbahlhjdefaaDoorCuW
import Derived.Test.YtfcbbahlhjdefaaDoorBsA
import Derived.Test.YtfcbbahlhjdefaaDoorDt
import Derived.Deep.AppendLies
import Derived.Deep.RegionLaw
import Derived.Test.YtfcbbahlhjdefaaDoorDxAJ
import Derived.Test.YtfcbbahlhjdefaaDoorSwV
import Derived.Test.YtfcbbahlhjdefaaDoorSwL
/- Trimmed, swapped lists: plain laws and both walks of TrimTail and SwapFlats. -/
namespace Go.Proofs.YtfcbbahlhjdefaaDoor
open Go.RowKit
theorem newFlats_e {lo : Nat} {fs : List Ft} {v : Value} {w0 w : World} (hs : Ifs lo w v fs) (hv : fvalid fs = true) (hb : Below w0.heap.size w0 w) :
    Calls Tryd.prog 19 #[v] w fun e w' => ∃ v', e = .returned v' ∧ GFs w' w0.heap.size w'.heap.size v' fs ∧ Below w0.heap.size w0 w' := by
  refine (newFlats_any fs v w hs (fun k f hf j xs hx => by have := bvalid_lens (fvalid_at hv hf) j xs hx; omega) (by have := fvalid_60 hv; omega)).mono ?_
  rintro e w' ⟨v', rfl, h1, h2⟩
  exact ⟨v', rfl, OwnG.low h1 hb.size, hb.trans (h2.mono hb.size)⟩
end Go.Proofs.YtfcbbahlhjdefaaDoor
/- Ties, boxes of rules, FlatBoxes; tails. -/
namespace Go.Proofs.YtfcbbahlhjdefaaDoor
open Go.RowKit
/-- What is known behind i rows and j columns. -/
def kn (i j r c : Nat) : Bool := decide ((r < i ∧ c < i) ∨ (r = i ∧ c < j) ∨ (c = i ∧ r < j))
structure R4 where
  v0 : Value
  v1 : Value
  v2 : Value
  v3 : Value
abbrev R4.enc (r : R4) : List Value := [r.v0, r.v1, r.v2, r.v3]
def R4.ok (lo : Nat) (w : World) (r : R4) (b : Bx) : Prop := All2 (Sps lo w) [r.v0, r.v1, r.v2, r.v3] b
def Iss (lo : Nat) (w : World) (v : Value) (bs : List Bx) : Prop := ∃ rs, SlFr lo 4 R4.enc w v rs ∧ All2 (R4.ok lo w) rs bs
theorem Iss.form {lo : Nat} {w : World} {v : Value} {bs : List Bx} (h : Iss lo w v bs) : ∃ a cap, v = .slice a bs.length cap ∧ bs.length ≤ cap ∧ cap ≤ maxLen := by
  obtain ⟨rs, ⟨a, cap, rfl, h1, h2, _⟩, h3⟩ := h
  exact ⟨a, cap, by rw [h3.1], by rw [← h3.1]; exact h1, h2⟩
theorem infoSd : (Tryd.prog.info? 84).map (fun i => (i.zero, i.size, i.bytes)) = some (some (.agg #[.slice none 0 0, .slice none 0 0, .slice none 0 0, .slice none 0 0]), 4, 96) := by kernel_rfl
end Go.Proofs.YtfcbbahlhjdefaaDoor
namespace Go.Proofs.YtfcbbahlhjdefaaDoor
open Go.RowKit
/-- A set if it is not too long. -/
def slim (xs : List Sp) : List Sp := if xs.length ≤ 40 then xs else []
set_option maxHeartbeats 1000000 in
theorem limit_any {base : Nat} (xs : List Sp) (v : Value) (w : World) (hs : OwnSp base w v xs) :
    Calls Tryd.prog 68 #[v] w fun e w' => (∃ z, e = .returned (.tuple #[z, .bool (decide (xs.length ≤ 40))]) ∧ OwnSp base w z (slim xs)) ∧ w = w' := by
  obtain ⟨a, cap, rfl, hlc, hcm⟩ := hs.sps.form
  unfold maxLen at hcm
  unfold slim
  by_cases h : xs.length ≤ 40
  · rw [if_pos h, decide_eq_true h]
    have HS := Lib.hid hs
    clear hs
    generalize xs.length = n at *
    have h2 : ¬ (40 : Int) < (n : Int) := by omega
    go_enter Tryd.func68, Tryd.ntmps68
    go_wp2
    go_ret2
    exact ⟨⟨_, rfl, HS.out⟩, rfl⟩
  · rw [if_neg h, decide_eq_false h]
    have h2 : (40 : Int) < (xs.length : Int) := by omega
    clear hs
    generalize xs.length = n at *
    go_enter Tryd.func68, Tryd.ntmps68
    go_wp2
    go_ret2
    exact ⟨⟨_, rfl, World.ownsRow_nil _ _ _ _⟩, rfl⟩
/-- A set and whether it is short enough, in memory of the call's own. -/
def RetLim (ys : List Sp) (w : World) (e : Ending) (w' : World) : Prop := ∃ z r, e = .returned (.tuple #[z, .bool r]) ∧ r = decide (ys.length ≤ 40) ∧ OwnSp w.heap.size w' z (slim ys) ∧ Below w.heap.size w w'
set_option maxHeartbeats 1000000 in
theorem meetSpans_any {lo lo' : Nat} (xs ys : List Sp) (u v : Value) (t : Int) (w : World) (hs : Sps lo w u xs) (ht : Sps lo' w v ys) (gx : sgood t 0 xs = true) (gy : sgood t 0 ys = true) (t0 : 0 ≤ t) (t1 : t ≤ 65535) :
    Calls Tryd.prog 61 #[u, v, .int .i64 t] w (RetLim (smeet xs ys) w) := by
  go_enter Tryd.func61, Tryd.ntmps61
  go_wp2_with fail
  refine (sweepMeet_any xs ys u v t w hs ht gx gy t0 t1).mono ?_
  rintro e w1 ⟨z, rfl, zs, hsw, ho, hb⟩
  obtain rfl := hsw.meet gx gy
  go_wp2_with fail
  refine (limit_any _ _ _ ho).mono ?_
  rintro e _ ⟨⟨z2, rfl, ho2⟩, rfl⟩
  obtain ⟨r, hr⟩ : ∃ r, decide ((smeet xs ys).length ≤ 40) = r := ⟨_, rfl⟩
  rw [hr]
  have HO := Lib.hid ho2
  have HR := Lib.hid hr
  clear ho ho2 hr hsw
  go_wp2_with fail
  go_ret2
  exact ⟨_, _, rfl, HR.out.symm, HO.out, hb⟩
set_option maxHeartbeats 1000000 in
theorem lessSpans_any {lo lo' : Nat} (xs ys : List Sp) (u v : Value) (t : Int) (w : World) (hs : Sps lo w u xs) (ht : Sps lo' w v ys) (gx : sgood t 0 xs = true) (gy : sgood t 0 ys = true) (t0 : 0 ≤ t) (t1 : t ≤ 65535) :
    Calls Tryd.prog 76 #[u, v, .int .i64 t] w (RetLim (smeet xs (sother t 0 ys)) w) := by
  go_enter Tryd.func76, Tryd.ntmps76
  go_wp2_with fail
  refine (sweepLess_any xs ys u v t w hs ht gx gy t0 t1).mono ?_
  rintro e w1 ⟨z, rfl, zs, hsw, ho, hb⟩
  obtain rfl := hsw.less gx gy
  go_wp2_with fail
  refine (limit_any _ _ _ ho).mono ?_
  rintro e _ ⟨⟨z2, rfl, ho2⟩, rfl⟩
  obtain ⟨r, hr⟩ : ∃ r, decide ((smeet xs (sother t 0 ys)).length ≤ 40) = r := ⟨_, rfl⟩
  rw [hr]
  have HO := Lib.hid ho2
  have HR := Lib.hid hr
  clear ho ho2 hr hsw
  go_wp2_with fail
  go_ret2
  exact ⟨_, _, rfl, HR.out.symm, HO.out, hb⟩
theorem meetSpans_r {lo lo' : Nat} {xs ys L : List Sp} {u v : Value} {t : Int} {w : World} {r : Bool} (hL : smeet xs ys = L) (hr : decide (L.length ≤ 40) = r) (hs : Sps lo w u xs) (ht : Sps lo' w v ys) (gx : sgood t 0 xs = true) (gy : sgood t 0 ys = true) (t0 : 0 ≤ t) (t1 : t ≤ 65535) :
    Calls Tryd.prog 61 #[u, v, .int .i64 t] w fun e w' => ∃ z, e = .returned (.tuple #[z, .bool r]) ∧ OwnSp w.heap.size w' z (slim L) ∧ Below w.heap.size w w' := by
  subst hL
  refine (meetSpans_any xs ys u v t w hs ht gx gy t0 t1).mono ?_
  rintro e w' ⟨z, r', rfl, rfl, ho, hb⟩
  subst hr
  exact ⟨z, rfl, ho, hb⟩
theorem lessSpans_r {lo lo' : Nat} {xs ys L : List Sp} {u v : Value} {t : Int} {w : World} {r : Bool} (hL : smeet xs (sother t 0 ys) = L) (hr : decide (L.length ≤ 40) = r) (hs : Sps lo w u xs) (ht : Sps lo' w v ys) (gx : sgood t 0 xs = true) (gy : sgood t 0 ys = true) (t0 : 0 ≤ t) (t1 : t ≤ 65535) :
    Calls Tryd.prog 76 #[u, v, .int .i64 t] w fun e w' => ∃ z, e = .returned (.tuple #[z, .bool r]) ∧ OwnSp w.heap.size w' z (slim L) ∧ Below w.heap.size w w' := by
  subst hL
  refine (lessSpans_any xs ys u v t w hs ht gx gy t0 t1).mono ?_
  rintro e w' ⟨z, r', rfl, rfl, ho, hb⟩
  subst hr
  exact ⟨z, rfl, ho, hb⟩
/-- A set in memory that no block of P holds. -/
def SpV (P : Nat → Prop) (w : World) (v : Value) (xs : List Sp) : Prop := Sps 0 w v xs ∧ ∀ q n c, v = .slice (some q) n c → xs ≠ [] → ¬ P q.block
theorem SpV.keep {P P' : Nat → Prop} {w w' : World} {v : Value} {xs : List Sp} (h : SpV P w v xs) (hz : w.heap.size ≤ w'.heap.size) (hk : ∀ k, k < w.heap.size → ¬ P k → w'.heap[k]? = w.heap[k]? ∧ ¬ P' k) : SpV P' w' v xs := by
  obtain ⟨⟨a, cap, rfl, h1, h2, hx⟩, hp⟩ := h
  refine ⟨⟨a, cap, rfl, h1, h2, fun k x hk' => ?_⟩, fun q n c e hne => ?_⟩
  · obtain ⟨b, o, ha, h3, h4, hc⟩ := hx k x hk'
    subst ha
    have hP := hp _ _ _ rfl (by intro e; subst e; simp at hk')
    exact ⟨b, o, rfl, h3, by omega, fun j u hj => (World.cell?_of_block (hk b h4 hP).1).trans (hc j u hj)⟩
  · obtain ⟨x, hx0⟩ : ∃ x, xs[0]? = some x := ⟨_, List.getElem?_eq_getElem (List.length_pos_iff.2 hne)⟩
    obtain ⟨b, o, ha, h3, h4, hc⟩ := hx 0 x hx0
    subst ha
    obtain ⟨e1, -, -⟩ := Value.slice.inj e
    cases e1
    exact (hk b h4 (hp _ _ _ rfl hne)).2
theorem SpV.old {P : Nat → Prop} {lo : Nat} {w0 w : World} {v : Value} {xs : List Sp} (h : Sps lo w0 v xs) (hb : Below w0.heap.size w0 w) (hP : ∀ k, P k → w0.heap.size ≤ k) : SpV P w v xs := by
  refine ⟨(h.mono (Nat.zero_le _)).below hb, fun q n c e hne hp => ?_⟩
  obtain ⟨a, cap, rfl, h1, h2, hx⟩ := h
  obtain ⟨x, hx0⟩ : ∃ x, xs[0]? = some x := ⟨_, List.getElem?_eq_getElem (List.length_pos_iff.2 hne)⟩
  obtain ⟨b, o, ha, h3, h4, hc⟩ := hx 0 x hx0
  subst ha
  obtain ⟨e1, -, -⟩ := Value.slice.inj e
  cases e1
  have := hP _ hp
  simp only at this
  omega
theorem SpV.older {P X : Nat → Prop} {w0 w : World} {v : Value} {xs : List Sp} (h : SpV X w0 v xs) (hb : Below w0.heap.size w0 w) (hP : ∀ k, P k → w0.heap.size ≤ k ∨ X k) : SpV P w v xs := by
  refine ⟨h.1.below hb, fun q n c e hne hp => ?_⟩
  rcases hP _ hp with h1 | h1
  · exact (SpV.old (P := fun k => w0.heap.size ≤ k) h.1 hb (fun _ h => h)).2 q n c e hne h1
  · exact h.2 q n c e hne h1
theorem SpV.sub {P P' : Nat → Prop} {w : World} {v : Value} {xs : List Sp} (h : SpV P w v xs) (hP : ∀ k, P' k → P k) : SpV P' w v xs := ⟨h.1, fun q n c e hne hp => h.2 q n c e hne (hP _ hp)⟩
theorem SpV.below {P : Nat → Prop} {w w' : World} {v : Value} {xs : List Sp} (h : SpV P w v xs) (hb : Below w.heap.size w w') : SpV P w' v xs := h.keep hb.size (fun k k1 k2 => ⟨hb.block k k1, k2⟩)
theorem SpV.own {P : Nat → Prop} {base : Nat} {w : World} {v : Value} {xs : List Sp} (h : OwnSp base w v xs) (hP : ∀ k, P k → k < base) : SpV P w v xs := by
  refine ⟨(OwnSp.sps h).mono (Nat.zero_le _), fun q n c e hne hp => ?_⟩
  rcases OwnSl.form h with ⟨_, h'⟩ | ⟨g, c', h', hg, _⟩
  · exact hne h'
  · rw [e] at h'
    obtain ⟨e1, -, -⟩ := Value.slice.inj h'
    cases e1
    have := hP _ hp
    simp only at this
    omega
theorem SpV.sps {P : Nat → Prop} {w : World} {v : Value} {xs : List Sp} (h : SpV P w v xs) : Sps 0 w v xs := h.1
theorem bempty_meet {a b : Bx} (ha : a.length = 4) (hb : b.length = 4) (h : bempty a = true) : bempty (bmeet a b) = true := by
  rw [← Bool.not_eq_false, bempty_iff (bmeet_len ha hb)]
  intro g
  rw [← Bool.not_eq_false, bempty_iff ha] at h
  refine h (fun n hn => ?_)
  have := g n hn
  obtain ⟨x, hx⟩ : ∃ x, a[n]? = some x := ⟨_, List.getElem?_eq_getElem (by omega)⟩
  obtain ⟨y, hy⟩ : ∃ y, b[n]? = some y := ⟨_, List.getElem?_eq_getElem (by omega)⟩
  rw [getD_get (bmeet_get hx hy)] at this
  rw [getD_get hx]
  cases x with
  | nil => exact this
  | cons s x => rfl
set_option maxHeartbeats 1000000 in
theorem empty_b {lo : Nat} {a : Bx} {v0 v1 v2 v3 : Value} {w : World} {r : Bool} (hs : All2 (Sps lo w) [v0, v1, v2, v3] a) (h : bempty a = r) :
    Calls Tryd.prog 75 #[.agg #[v0, v1, v2, v3]] w fun e w' => e = .returned (.bool r) ∧ Below w.heap.size w w' := by
  have hal : Below w.heap.size w (w.alloc (.cells #[v0, v1, v2, v3] 84)) := (Below.refl _ _).alloc (Nat.le_refl _) _
  have H4 := Lib.hid (show a.length = 4 from hs.1.symm)
  have HS := Lib.hid hs
  have HR := Lib.hid h
  clear hs h
  go_enter Tryd.func75, Tryd.ntmps75
  go_wp2_with fail
  go_loopw [4, 6] (fun _ i wr => ∃ k : Nat, k ≤ 4 ∧ i = .int .i64 k ∧ Hid (∀ (j : Nat) xs, j < k → a[j]? = some xs → xs.isEmpty = false) ∧ Below w.heap.size w wr) (fun _ i _ => 4 - (intOf i).toNat)
  case atStart => exact ⟨0, by omega, rfl, Lib.hid (fun j xs hj => by omega), hal⟩
  case round =>
    obtain ⟨k, hk, rfl, HG, hbr⟩ := hrel
    by_cases hlt : k < 4
    · have i1 : (k : Int) < 4 := by omega
      have i2 : (0 : Int) ≤ (k : Int) := by omega
      obtain ⟨xs, hx⟩ : ∃ xs, a[k]? = some xs := ⟨_, List.getElem?_eq_getElem (by rw [H4.out]; exact hlt)⟩
      obtain ⟨sv, hsv, hss⟩ := HS.out.left hx
      have hxi : ∀ w : World, (Instr.index 84 (.agg #[v0, v1, v2, v3]) (.int .i64 (k : Int))).run Tryd.prog w = .ok sv w := by
        intro w
        rcases (by omega : k = 0 ∨ k = 1 ∨ k = 2 ∨ k = 3) with rfl | rfl | rfl | rfl <;> (cases hsv; kernel_rfl)
      obtain ⟨sa, sc, rfl, -, -⟩ := hss.form
      have HX := Lib.hid hx
      clear hx hss hsv
      cases hv : xs.isEmpty
      · have HV := Lib.hid hv
        have hne : ((xs.length : Int) == 0) = false := by
          cases xs with
          | nil => simp at hv
          | cons x xs => simp; omega
        clear hv
        go_wp2
        go_roundw
        case rel =>
          refine ⟨k + 1, by omega, by go_num, Lib.hid (fun j ys hj hy => ?_), hbr⟩
          by_cases e : j = k
          · subst e; rw [HX.out] at hy; cases hy; exact HV.out
          · exact HG.out j ys (by omega) hy
        case measure => simp [intOf]; omega
      · have HE := Lib.hid (bempty_yes HX.out hv)
        obtain rfl : xs = [] := by simpa using hv
        clear hv
        go_wp2
        go_ret
        exact ⟨ret_bool (by rw [← HR.out]; exact HE.out.symm), hbr⟩
    · have hkn : k = 4 := by omega
      have HE := Lib.hid (bempty_no (b := a) (fun j xs hj => HG.out j xs (by have := (List.getElem?_eq_some_iff.1 hj).1; rw [H4.out] at this; omega) hj))
      subst hkn
      go_wp2
      go_ret
      exact ⟨ret_bool (by rw [← HR.out]; exact HE.out.symm), hbr⟩
end Go.Proofs.YtfcbbahlhjdefaaDoor
