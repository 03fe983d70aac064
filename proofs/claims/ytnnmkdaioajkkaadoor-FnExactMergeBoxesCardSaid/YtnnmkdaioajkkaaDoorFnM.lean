/- Elements of lists of lists of the call's own; marks as plain functions. -/
import Derived.Test.YtnnmkdaioajkkaaDoorFoD
import Derived.Test.YtnnmkdaioajkkaaDoorFlTr0
import Derived.Test.YtnnmkdaioajkkaaDoorFmC
import Derived.Test.YtnnmkdaioajkkaaDoorFmZ
namespace Go.Proofs.YtnnmkdaioajkkaaDoor
open Go.RowKit
theorem Chg.setCell {lo hi : Nat} (w : World) {p : Addr} {c : Value} (h1 : lo ≤ p.block) (h2 : p.block < hi) : Chg lo hi w (w.setCell p c) :=
  ⟨(Below.refl _ _).setCell h1 _, fun k k1 _ => Below.heap_setCell _ _ _ _ (by omega)⟩
theorem Chg.grown {l m : Nat} {w w' : World} {r : Option Nat} (hg : w.grownBy w' r) (hr : ∀ k, r = some k → l ≤ k ∧ k < m) (hl : l ≤ w.heap.size) : Chg l m w w' :=
  ⟨(Below.refl l w).grown hg hl (fun k hk => (hr k hk).1), fun k k1 k2 => hg.block k k2 (fun e => by have := (hr k e.symm).2; omega)⟩
theorem set_same {α : Type} {l : List α} {k : Nat} {x : α} (h : l[k]? = some x) : l.set k x = l := by
  apply List.ext_getElem?
  intro j
  rw [List.getElem?_set]
  split
  · rename_i e
    subst e
    have := (List.getElem?_eq_some_iff.1 h).1
    rw [if_pos this, h]
  · rfl
theorem OwnG.elem {α β : Type} {e sz : Nat} {enc : α → List Value} {P : World → Nat → Nat → α → β → Prop} (henc : ∀ x, (enc x).length = sz) (hk : Kind P) {w : World} {lo hi : Nat} {v : Value} {ys : List β} (h : OwnG e sz enc P w lo hi v ys) {k : Nat} {y : β} (hy : ys[k]? = some y) :
    ∃ (g cap : Nat) (x : α) (l m : Nat), v = .slice (some ⟨g, 0, none⟩) ys.length cap ∧ lo ≤ l ∧ l ≤ m ∧ m ≤ hi ∧ P w l m x y ∧ (∀ (j : Nat) c, (enc x)[j]? = some c → w.cell? ⟨g, k * sz + j, none⟩ = some c) ∧ lo ≤ g ∧ g < hi ∧ g < w.heap.size ∧ (∀ o, w.frozen? ⟨g, o, none⟩ = false) ∧ (g < l ∨ m ≤ g) ∧
      (∀ w' y', Chg l m w w' → P w' l m x y' → OwnG e sz enc P w' lo hi v (ys.set k y')) ∧
      (∀ (j : Nat) c x' y', j < sz → enc x' = (enc x).set j c → P (w.setCell ⟨g, k * sz + j, none⟩ c) l m x' y' → OwnG e sz enc P (w.setCell ⟨g, k * sz + j, none⟩ c) lo hi v (ys.set k y')) := by
  obtain ⟨vs, h1, h2, h3, h4⟩ := h
  have hlen := h4.len
  obtain ⟨x, hx⟩ : ∃ x, vs[k]? = some x := ⟨_, List.getElem?_eq_getElem (by rw [hlen]; exact (List.getElem?_eq_some_iff.1 hy).1)⟩
  obtain ⟨l, m, k1, k2, k3, ⟨kP, kO⟩, kR⟩ := OwnD.step (hk.leO w _) k h4 hx hy
  rcases OwnSl.form h1 with ⟨_, h0⟩ | ⟨g, cap, hv, hg1, hg2, hg3, hg4, hg5⟩
  · rw [h0] at hx; simp at hx
  · have hgo : v.ownBlock = some g := by rw [hv]; rfl
    have hoff := kO g hgo
    rw [hlen] at hv
    refine ⟨g, cap, x, l, m, hv, k1, k2, k3, kP, ?_, hg1, h2 g hgo, hg2, hg5, hoff, fun w' y' hc hp => ?_, fun j c x' y' hj he hp => ?_⟩
    · have h1' := h1
      rw [hv] at h1'
      exact OwnSl.cell henc h1' hx
    · refine ⟨vs, h1.keepB (fun z hz _ hzs => ?_), h2, h3, ?_⟩
      · rw [hgo] at hz
        cases hz
        rcases hoff with ho | ho
        · exact hc.below.block g ho
        · exact hc.high g ho hzs
      · have := kR (fun l' h' a b => P w' l' h' a b ∧ Off v.ownBlock l' h') x y' ⟨hp, kO⟩ (fun l' h' a b hd q => ⟨hk.keep _ _ _ _ _ _ q.1 (hc.kpi hd), q.2⟩)
        rwa [set_same hx] at this
    · have h1' := h1
      rw [hv] at h1'
      obtain ⟨hst, _⟩ := OwnSl.storeAt henc hlen.symm h1' hx (y' := x') hj he
      refine ⟨vs.set k x', by rw [hv]; exact hst, h2, h3, ?_⟩
      refine kR (fun l' h' a b => P (w.setCell ⟨g, k * sz + j, none⟩ c) l' h' a b ∧ Off v.ownBlock l' h') x' y' ⟨hp, kO⟩ (fun l' h' a b hd q => ⟨hk.keep _ _ _ _ _ _ q.1 (Kpi.setCell w ?_), q.2⟩)
      exact q.2 g hgo
/-- Counts and marks of lists. -/
def gcnt {β : Type} (cnt : β → Nat) : List β → Nat
  | [] => 0
  | y :: ys => cnt y + gcnt cnt ys
def gmark {β : Type} (cnt : β → Nat) (mk : Nat → β → β) : Nat → List β → List β
  | _, [] => []
  | m, y :: ys => mk m y :: gmark cnt mk (m + cnt y) ys
section
variable {β : Type} {cnt : β → Nat} {mk : Nat → β → β}
theorem gcnt_append : ∀ (a b : List β), gcnt cnt (a ++ b) = gcnt cnt a + gcnt cnt b
  | [], b => by simp [gcnt]
  | y :: a, b => by simp only [List.cons_append, gcnt, gcnt_append a b]; omega
theorem gcnt_succ {ys : List β} {k : Nat} {y : β} (h : ys[k]? = some y) : gcnt cnt (ys.take (k + 1)) = gcnt cnt (ys.take k) + cnt y := by
  rw [List.take_add_one, h, gcnt_append]
  simp [gcnt]
theorem gcnt_take (ys : List β) (k : Nat) : gcnt cnt (ys.take k) ≤ gcnt cnt ys := by
  conv => rhs; rw [← List.take_append_drop k ys, gcnt_append]
  omega
theorem gcnt_at {ys : List β} {k : Nat} {y : β} (h : ys[k]? = some y) : gcnt cnt (ys.take k) + cnt y ≤ gcnt cnt ys := by
  rw [← gcnt_succ h]
  exact gcnt_take _ _
theorem gmark_append : ∀ (m : Nat) (a b : List β), gmark cnt mk m (a ++ b) = gmark cnt mk m a ++ gmark cnt mk (m + gcnt cnt a) b
  | m, [], b => by simp [gmark, gcnt]
  | m, y :: a, b => by simp only [List.cons_append, gmark, gcnt, gmark_append (m + cnt y) a b, Nat.add_assoc]
theorem gmark_len : ∀ (m : Nat) (a : List β), (gmark cnt mk m a).length = a.length
  | _, [] => rfl
  | m, y :: a => by simp [gmark, gmark_len]
theorem gmark_succ {ys : List β} {k m : Nat} {y : β} (h : ys[k]? = some y) : gmark cnt mk m (ys.take (k + 1)) = gmark cnt mk m (ys.take k) ++ [mk (m + gcnt cnt (ys.take k)) y] := by
  rw [List.take_add_one, h, gmark_append]
  simp [gmark]
theorem gmark_step {ys : List β} {k m : Nat} {y : β} (h : ys[k]? = some y) : (gmark cnt mk m (ys.take k) ++ ys.drop k).set k (mk (m + gcnt cnt (ys.take k)) y) = gmark cnt mk m (ys.take (k + 1)) ++ ys.drop (k + 1) := by
  have hk := (List.getElem?_eq_some_iff.1 h)
  obtain ⟨h1, h2⟩ := hk
  have hl : (gmark cnt mk m (ys.take k)).length = k := by rw [gmark_len, List.length_take]; omega
  rw [List.set_append_right _ _ (by omega), hl, Nat.sub_self, List.drop_eq_getElem_cons h1, List.set_cons_zero, gmark_succ h, List.append_assoc]
  rfl
theorem gmark_cur {ys : List β} {k m : Nat} {y : β} (h : ys[k]? = some y) : (gmark cnt mk m (ys.take k) ++ ys.drop k)[k]? = some y := by
  have h1 := (List.getElem?_eq_some_iff.1 h).1
  have hl : (gmark cnt mk m (ys.take k)).length = k := by rw [gmark_len, List.length_take]; omega
  rw [List.getElem?_append_right (by omega), hl, Nat.sub_self, List.getElem?_drop, Nat.add_zero, h]
theorem gmark_get {ys : List β} {k m : Nat} {y : β} (h : ys[k]? = some y) : (gmark cnt mk m ys)[k]? = some (mk (m + gcnt cnt (ys.take k)) y) := by
  have h1 := (List.getElem?_eq_some_iff.1 h).1
  have hl : (gmark cnt mk m (ys.take (k + 1))).length = k + 1 := by rw [gmark_len, List.length_take]; omega
  conv => lhs; rw [← List.take_append_drop (k + 1) ys, gmark_append]
  rw [List.getElem?_append_left (by omega), gmark_succ h, List.getElem?_append_right (by rw [gmark_len, List.length_take]; omega)]
  rw [gmark_len, List.length_take, Nat.min_eq_left (by omega), Nat.sub_self]
  rfl
end
theorem gcnt_sum {β : Type} (cnt : β → Nat) (l : List β) : gcnt cnt l = sumTo cnt l l.length := by
  have key : ∀ k, k ≤ l.length → gcnt cnt (l.take k) = sumTo cnt l k := by
    intro k
    induction k with
    | zero => intro _; simp [gcnt, sumTo]
    | succ k ih =>
      intro hk
      obtain ⟨x, hx⟩ : ∃ x, l[k]? = some x := ⟨_, List.getElem?_eq_getElem (by omega)⟩
      rw [gcnt_succ hx, ih (by omega), sumTo_succ hx]
  have := key l.length (Nat.le_refl _)
  rwa [List.take_length] at this
def bxcnt : Bx → Nat := gcnt fun xs => 2 * xs.length
def bxmark : Nat → Bx → Bx := gmark (fun xs => 2 * xs.length) fun m xs => Spmarks m xs.length
/-- The mark of a word. -/
def accm (m : Nat) : Bool := (m : Int) % 3 == 0
def ftcnt : List Ft → Nat := gcnt fun f => bxcnt f.box + 1
def ftmark : Nat → List Ft → List Ft := gmark (fun f => bxcnt f.box + 1) fun m f => ⟨bxmark m f.box, accm (m + bxcnt f.box)⟩
theorem bxcnt_succ {b : Bx} {k : Nat} {xs : List Sp} (h : b[k]? = some xs) : bxcnt (b.take (k + 1)) = bxcnt (b.take k) + 2 * xs.length := gcnt_succ (cnt := fun xs : List Sp => 2 * xs.length) h
theorem bxcnt_at {b : Bx} {k : Nat} {xs : List Sp} (h : b[k]? = some xs) : bxcnt (b.take k) + 2 * xs.length ≤ bxcnt b := gcnt_at (cnt := fun xs : List Sp => 2 * xs.length) h
theorem bxmark_step {b : Bx} {k m : Nat} {xs : List Sp} (h : b[k]? = some xs) : (bxmark m (b.take k) ++ b.drop k).set k (Spmarks (m + bxcnt (b.take k)) xs.length) = bxmark m (b.take (k + 1)) ++ b.drop (k + 1) :=
  gmark_step (cnt := fun xs : List Sp => 2 * xs.length) (mk := fun m xs => Spmarks m xs.length) h
theorem bxmark_cur {b : Bx} {k m : Nat} {xs : List Sp} (h : b[k]? = some xs) : (bxmark m (b.take k) ++ b.drop k)[k]? = some xs := gmark_cur h
theorem bxmark_len (m : Nat) (b : Bx) : (bxmark m b).length = b.length := gmark_len m b
theorem bxmark_get {b : Bx} {k m : Nat} {xs : List Sp} (h : b[k]? = some xs) : (bxmark m b)[k]? = some (Spmarks (m + bxcnt (b.take k)) xs.length) := gmark_get (cnt := fun xs : List Sp => 2 * xs.length) (mk := fun m xs => Spmarks m xs.length) h
theorem ftcnt_succ {fs : List Ft} {k : Nat} {f : Ft} (h : fs[k]? = some f) : ftcnt (fs.take (k + 1)) = ftcnt (fs.take k) + (bxcnt f.box + 1) := gcnt_succ (cnt := fun f : Ft => bxcnt f.box + 1) h
theorem ftcnt_at {fs : List Ft} {k : Nat} {f : Ft} (h : fs[k]? = some f) : ftcnt (fs.take k) + (bxcnt f.box + 1) ≤ ftcnt fs := gcnt_at (cnt := fun f : Ft => bxcnt f.box + 1) h
theorem ftmark_step {fs : List Ft} {k m : Nat} {f : Ft} (h : fs[k]? = some f) : (ftmark m (fs.take k) ++ fs.drop k).set k ⟨bxmark (m + ftcnt (fs.take k)) f.box, accm (m + ftcnt (fs.take k) + bxcnt f.box)⟩ = ftmark m (fs.take (k + 1)) ++ fs.drop (k + 1) :=
  gmark_step (cnt := fun f : Ft => bxcnt f.box + 1) (mk := fun m f => ⟨bxmark m f.box, accm (m + bxcnt f.box)⟩) h
theorem ftmark_cur {fs : List Ft} {k m : Nat} {f : Ft} (h : fs[k]? = some f) : (ftmark m (fs.take k) ++ fs.drop k)[k]? = some f := gmark_cur h
theorem ftmark_len (m : Nat) (fs : List Ft) : (ftmark m fs).length = fs.length := gmark_len m fs
theorem ftmark_get {fs : List Ft} {k m : Nat} {f : Ft} (h : fs[k]? = some f) : (ftmark m fs)[k]? = some ⟨bxmark (m + ftcnt (fs.take k)) f.box, accm (m + ftcnt (fs.take k) + bxcnt f.box)⟩ := gmark_get (cnt := fun f : Ft => bxcnt f.box + 1) (mk := fun m f => ⟨bxmark m f.box, accm (m + bxcnt f.box)⟩) h
theorem bxcnt_full {b : Bx} {n : Nat} (h : b.length = n) : bxcnt (b.take n) = bxcnt b := by rw [List.take_of_length_le (by omega)]
theorem bxmark_full {b : Bx} {m n : Nat} (h : b.length = n) : bxmark m (b.take n) ++ b.drop n = bxmark m b := by rw [List.take_of_length_le (by omega), List.drop_of_length_le (by omega), List.append_nil]
theorem ftcnt_full {fs : List Ft} {n : Nat} (h : fs.length = n) : ftcnt (fs.take n) = ftcnt fs := by rw [List.take_of_length_le (by omega)]
theorem ftmark_full {fs : List Ft} {m n : Nat} (h : fs.length = n) : ftmark m (fs.take n) ++ fs.drop n = ftmark m fs := by rw [List.take_of_length_le (by omega), List.drop_of_length_le (by omega), List.append_nil]
set_option maxHeartbeats 2000000 in
theorem markSpanSS_any (lo hi : Nat) (b : Bx) (v : Value) (m : Nat) (w : World) (ho : GRw w lo hi v b) (hh : hi ≤ w.heap.size) (hN : m + bxcnt b ≤ 8388608) (he : ∀ (k : Nat) xs, b[k]? = some xs → xs.length ≤ 1048576) :
    Calls Tryd.prog 79 #[v, .int .i64 (m : Int)] w fun e w' => e = .returned (.int .i64 ((m + bxcnt b : Nat) : Int)) ∧ GRw w' lo hi v (bxmark m b) ∧ Chg lo hi w w' := by
  obtain ⟨a, cap, rfl, hlc, hcm⟩ := ho.form
  unfold maxLen at hcm
  generalize hn : b.length = n at *
  have HN := Lib.hid hn
  have HE := Lib.hid he
  have HG0 := Lib.hid ho
  clear hn he ho
  go_enter Tryd.func79, Tryd.ntmps79
  go_wp2_with fail
  go_loopw [1, 5] (fun q i wr => ∃ k : Nat, k ≤ n ∧ i = .int .i64 k ∧ q = .int .i64 ((m + bxcnt (b.take k) : Nat) : Int) ∧ Hid (GRw wr lo hi (.slice a n cap) (bxmark m (b.take k) ++ b.drop k)) ∧ Chg lo hi w wr) (fun _ i _ => n - (intOf i).toNat)
  case atStart => exact ⟨0, by omega, rfl, rfl, Lib.hid HG0.out, Chg.refl _ _ _⟩
  case round =>
    obtain ⟨k, hk, rfl, rfl, HG, hc⟩ := hrel
    have hzr := hc.below.size
    by_cases hlt : k < n
    · have i1 : (k : Int) < (n : Int) := by omega
      have i2 : (0 : Int) ≤ (k : Int) := by omega
      obtain ⟨xs, hx⟩ : ∃ xs, b[k]? = some xs := ⟨_, List.getElem?_eq_getElem (by rw [HN.out]; exact hlt)⟩
      have HX := Lib.hid hx
      obtain ⟨g, cap', vk, l, mm, hv, hl1, hl2, hl3, hp, hcell, hg1, hg2, hg3, hfz, hgo, hre, -⟩ := OwnG.elem (sz := 1) (enc := enc1) (fun _ => rfl) PSp.kind HG.out (bxmark_cur hx)
      obtain ⟨rfl, -, rfl⟩ := Value.slice.inj hv
      have c0 := hcell 0 _ rfl
      simp only [Nat.mul_one, Nat.add_zero] at c0
      have hcn := bxcnt_at hx
      have hcs := bxcnt_succ hx
      obtain ⟨mk, hmk⟩ : ∃ mk, m + bxcnt (b.take k) = mk := ⟨_, rfl⟩
      rw [hmk]
      have hxl := HE.out k xs hx
      have hmk2 : mk ≤ 8388608 := by omega
      have HRE := Lib.hid hre
      have HP := Lib.hid hp
      have HM := Lib.hid (show mk + 2 * xs.length = m + bxcnt (b.take (k + 1)) by omega)
      clear hre hp hcell hcn hcs hx hv
      go_wp2_with fail
      refine (markSpanS_any l xs vk mk wr HP.out.1 hxl hmk2).mono ?_
      rintro e w2 ⟨rfl, ho2, hgr⟩
      have hc2 : Chg l mm wr w2 := Chg.grown hgr (fun z hz => ⟨(World.ownsRow.lt HP.out.1 z hz).1, HP.out.2.1 z hz⟩) (by omega)
      have HG2 := Lib.hid (HRE.out w2 (Spmarks mk xs.length) hc2 ⟨ho2, HP.out.2⟩)
      have hcw : Chg lo hi w w2 := hc.trans (hc2.wide hl1 hl3)
      clear ho2 hgr hc2
      go_wp2
      go_roundw
      case rel =>
        refine ⟨k + 1, by omega, by go_num, by have := HM.out; exact congrArg (Value.int .i64) (by omega), Lib.hid ?_, hcw⟩
        have h := HG2.out
        rw [← hmk, bxmark_step HX.out] at h
        exact h
      case measure => simp [intOf]; omega
    · have hkn : k = n := by omega
      subst hkn
      have HR := Lib.hid HG.out
      go_wp2
      go_ret
      refine ⟨ret_int (by rw [bxcnt_full HN.out]), ?_, hc⟩
      have := HR.out
      rwa [bxmark_full HN.out] at this
set_option maxHeartbeats 1000000 in
theorem heldSpanSS_any {lo : Nat} (b : Bx) (v : Value) (m : Nat) (w : World) (hs : Rws lo w v (bxmark m b)) (hN : m + bxcnt b ≤ 8388608) (he : ∀ (k : Nat) xs, b[k]? = some xs → xs.length ≤ 1048576) :
    Calls Tryd.prog 80 #[v, .int .i64 (m : Int)] w fun e w' => e = .returned (.int .i64 ((m + bxcnt b : Nat) : Int)) ∧ w = w' := by
  obtain ⟨a, cap, rfl, hlc, hcm⟩ := hs.form
  unfold maxLen at hcm
  rw [bxmark_len] at hs hlc ⊢
  generalize hn : b.length = n at *
  have HN := Lib.hid hn
  have HE := Lib.hid he
  have HS := Lib.hid hs
  clear hn he hs
  go_enter Tryd.func80, Tryd.ntmps80
  go_wp2_with fail
  go_loop [1, 5] (fun q i => ∃ k : Nat, k ≤ n ∧ i = .int .i64 k ∧ q = .int .i64 ((m + bxcnt (b.take k) : Nat) : Int)) (fun _ i => n - (intOf i).toNat)
  case atStart => exact ⟨0, by omega, rfl, rfl⟩
  case round =>
    obtain ⟨k, hk, rfl, rfl⟩ := hrel
    by_cases hlt : k < n
    · have i1 : (k : Int) < (n : Int) := by omega
      have i2 : (0 : Int) ≤ (k : Int) := by omega
      obtain ⟨xs, hx⟩ : ∃ xs, b[k]? = some xs := ⟨_, List.getElem?_eq_getElem (by rw [HN.out]; exact hlt)⟩
      obtain ⟨b', o, sv, rfl, hbl, c0, hsv⟩ := HS.out.at (bxmark_get hx)
      have hcn := bxcnt_at hx
      have hcs := bxcnt_succ hx
      obtain ⟨mk, hmk⟩ : ∃ mk, m + bxcnt (b.take k) = mk := ⟨_, rfl⟩
      rw [hmk] at hsv ⊢
      have hxl := HE.out k xs hx
      have hmk2 : mk ≤ 8388608 := by omega
      have HSV := Lib.hid hsv
      have HM := Lib.hid (show mk + 2 * xs.length = m + bxcnt (b.take (k + 1)) by omega)
      clear hcn hcs hx hsv
      go_wp2_with fail
      refine (heldSpanS_any xs.length sv mk _ HSV.out.z hxl hmk2).mono ?_
      rintro e w2 ⟨rfl, rfl⟩
      have hp0 : ¬ ((mk + 2 * xs.length : Nat) : Int) < 0 := by omega
      go_wp2
      all_goals first | (exfalso; omega) | skip
      go_round
      case rel => exact ⟨k + 1, by omega, by go_num, by have := HM.out; exact congrArg (Value.int .i64) (by omega)⟩
      case measure => simp [intOf]; omega
    · have hkn : k = n := by omega
      subst hkn
      go_wp2
      go_ret
      exact ⟨ret_int (by rw [bxcnt_full HN.out]), rfl⟩
set_option maxHeartbeats 2000000 in
theorem markFlatS_any (lo hi : Nat) (fs : List Ft) (v : Value) (m : Nat) (w : World) (ho : GFs w lo hi v fs) (hh : hi ≤ w.heap.size) (hN : m + ftcnt fs ≤ 8388608) (he : ∀ (k : Nat) f, fs[k]? = some f → ∀ (j : Nat) xs, f.box[j]? = some xs → xs.length ≤ 1048576) :
    Calls Tryd.prog 27 #[v, .int .i64 (m : Int)] w fun e w' => e = .returned (.int .i64 ((m + ftcnt fs : Nat) : Int)) ∧ GFs w' lo hi v (ftmark m fs) ∧ Chg lo hi w w' := by
  obtain ⟨a, cap, rfl, hlc, hcm⟩ := ho.form
  unfold maxLen at hcm
  generalize hn : fs.length = n at *
  have HN := Lib.hid hn
  have HE := Lib.hid he
  have HG0 := Lib.hid ho
  clear hn he ho
  go_enter Tryd.func27, Tryd.ntmps27
  go_wp2_with fail
  go_loopw [1, 5] (fun q i wr => ∃ k : Nat, k ≤ n ∧ i = .int .i64 k ∧ q = .int .i64 ((m + ftcnt (fs.take k) : Nat) : Int) ∧ Hid (GFs wr lo hi (.slice a n cap) (ftmark m (fs.take k) ++ fs.drop k)) ∧ Chg lo hi w wr) (fun _ i _ => n - (intOf i).toNat)
  case atStart => exact ⟨0, by omega, rfl, rfl, Lib.hid HG0.out, Chg.refl _ _ _⟩
  case round =>
    obtain ⟨k, hk, rfl, rfl, HG, hc⟩ := hrel
    have hzr := hc.below.size
    by_cases hlt : k < n
    · have i1 : (k : Int) < (n : Int) := by omega
      have i2 : (0 : Int) ≤ (k : Int) := by omega
      obtain ⟨f, hx⟩ : ∃ f, fs[k]? = some f := ⟨_, List.getElem?_eq_getElem (by rw [HN.out]; exact hlt)⟩
      have HX := Lib.hid hx
      obtain ⟨g, cap', r, l, mm, hv, hl1, hl2, hl3, hp, hcell, hg1, hg2, hg3, hfz, hgo, hre, -⟩ := OwnG.elem (sz := 2) (enc := RF.enc) (fun _ => rfl) PFg.kind HG.out (ftmark_cur hx)
      obtain ⟨rfl, -, rfl⟩ := Value.slice.inj hv
      have c0 := hcell 0 _ rfl
      simp only [Nat.add_zero] at c0
      have hcn := ftcnt_at hx
      have hcs := ftcnt_succ hx
      obtain ⟨mk, hmk⟩ : ∃ mk, m + ftcnt (fs.take k) = mk := ⟨_, rfl⟩
      rw [hmk]
      have hmk2 : mk + bxcnt f.box ≤ 8388608 := by omega
      have HRE := Lib.hid hre
      have HP := Lib.hid hp
      have HM := Lib.hid (show mk + bxcnt f.box + 1 = m + ftcnt (fs.take (k + 1)) by omega)
      have HEF := Lib.hid (HE.out k f hx)
      clear hre hp hcell hcn hcs hx hv hfz
      go_wp2_with fail
      refine (markSpanSS_any l mm f.box r.s mk wr HP.out.1 (by omega) hmk2 HEF.out).mono ?_
      rintro e w2 ⟨rfl, ho2, hc2⟩
      have hz2 := hc2.below.size
      have HG2 := Lib.hid (HRE.out w2 ⟨bxmark mk f.box, f.acc⟩ hc2 ⟨ho2, HP.out.2⟩)
      have hcw : Chg lo hi w w2 := hc.trans (hc2.wide hl1 hl3)
      clear ho2 hc2
      have hcur : ((ftmark m (fs.take k) ++ fs.drop k).set k (⟨bxmark mk f.box, f.acc⟩ : Ft))[k]? = some ⟨bxmark mk f.box, f.acc⟩ := by
        rw [List.getElem?_set_self]
        exact (List.getElem?_eq_some_iff.1 (ftmark_cur (m := m) HX.out)).1
      obtain ⟨g', cap'', r', l', mm', hv, hl1', hl2', hl3', hp', hcell', -, -, -, hfz, hgo', -, hre'⟩ := OwnG.elem (sz := 2) (enc := RF.enc) (fun _ => rfl) PFg.kind HG2.out hcur
      obtain ⟨he, -, -⟩ := Value.slice.inj hv
      obtain ⟨rfl, -, -⟩ := Addr.mk.inj (Option.some.inj he)
      have c1 := hcell' 1 _ rfl
      have f1 := hfz (k * 2 + 1)
      obtain ⟨p, hpp⟩ : ∃ p, accm (mk + bxcnt f.box) = p := ⟨_, rfl⟩
      have HPP := Lib.hid hpp
      have HG3 := Lib.hid (hre' 1 (.bool p) ⟨r'.s, p⟩ ⟨bxmark mk f.box, p⟩ (by omega) rfl ⟨GRw.kind.keep _ _ _ _ _ _ hp'.1 (Kpi.setCell w2 hgo'), rfl⟩)
      have HC3 := Lib.hid (hcw.trans (Chg.setCell w2 (p := ⟨g, k * 2 + 1, none⟩) (c := .bool p) hg1 hg2))
      clear hcell' hp' hre' hv he hpp hcur hfz
      have hac : (((mk : Int) + (bxcnt f.box : Int)) % 3 == 0) = p := by have := HPP.out; unfold accm at this; rwa [Int.natCast_add] at this
      go_wp2
      go_roundw
      case rel =>
        refine ⟨k + 1, by omega, by go_num, by have := HM.out; exact congrArg (Value.int .i64) (by omega), Lib.hid ?_, HC3.out⟩
        have h := HG3.out
        have hst := ftmark_step (m := m) HX.out
        rw [hmk, HPP.out] at hst
        rw [List.set_set, hst] at h
        exact h
      case measure => simp [intOf]; omega
    · have hkn : k = n := by omega
      subst hkn
      have HR := Lib.hid HG.out
      go_wp2
      go_ret
      refine ⟨ret_int (by rw [ftcnt_full HN.out]), ?_, hc⟩
      have := HR.out
      rwa [ftmark_full HN.out] at this
set_option maxHeartbeats 1000000 in
theorem heldFlatS_any {lo : Nat} (fs : List Ft) (v : Value) (m : Nat) (w : World) (hs : Fts lo w v (ftmark m fs)) (hN : m + ftcnt fs ≤ 8388608) (he : ∀ (k : Nat) f, fs[k]? = some f → ∀ (j : Nat) xs, f.box[j]? = some xs → xs.length ≤ 1048576) :
    Calls Tryd.prog 28 #[v, .int .i64 (m : Int)] w fun e w' => e = .returned (.int .i64 ((m + ftcnt fs : Nat) : Int)) ∧ w = w' := by
  obtain ⟨a, cap, rfl, hlc, hcm⟩ := hs.form
  unfold maxLen at hcm
  rw [ftmark_len] at hs hlc ⊢
  generalize hn : fs.length = n at *
  have HN := Lib.hid hn
  have HE := Lib.hid he
  have HS := Lib.hid hs
  clear hn he hs
  go_enter Tryd.func28, Tryd.ntmps28
  go_wp2_with fail
  go_loop [1, 5] (fun q i => ∃ k : Nat, k ≤ n ∧ i = .int .i64 k ∧ q = .int .i64 ((m + ftcnt (fs.take k) : Nat) : Int)) (fun _ i => n - (intOf i).toNat)
  case atStart => exact ⟨0, by omega, rfl, rfl⟩
  case round =>
    obtain ⟨k, hk, rfl, rfl⟩ := hrel
    by_cases hlt : k < n
    · have i1 : (k : Int) < (n : Int) := by omega
      have i2 : (0 : Int) ≤ (k : Int) := by omega
      obtain ⟨f, hx⟩ : ∃ f, fs[k]? = some f := ⟨_, List.getElem?_eq_getElem (by rw [HN.out]; exact hlt)⟩
      obtain ⟨b', o, sv, rfl, hbl, c0, c1, hsv⟩ := HS.out.at (ftmark_get hx)
      have hcn := ftcnt_at hx
      have hcs := ftcnt_succ hx
      obtain ⟨mk, hmk⟩ : ∃ mk, m + ftcnt (fs.take k) = mk := ⟨_, rfl⟩
      simp only [hmk] at hsv c1
      rw [hmk]
      obtain ⟨p, hpp⟩ : ∃ p, accm (mk + bxcnt f.box) = p := ⟨_, rfl⟩
      rw [hpp] at c1
      have hac : (((mk : Int) + (bxcnt f.box : Int)) % 3 == 0) = p := by have := hpp; unfold accm at this; rwa [Int.natCast_add] at this
      have hmk2 : mk + bxcnt f.box ≤ 8388608 := by omega
      have HSV := Lib.hid hsv
      have HM := Lib.hid (show mk + bxcnt f.box + 1 = m + ftcnt (fs.take (k + 1)) by omega)
      have HEF := Lib.hid (HE.out k f hx)
      clear hcn hcs hx hsv hpp
      go_wp2_with fail
      refine (heldSpanSS_any f.box sv mk _ HSV.out hmk2 HEF.out).mono ?_
      rintro e w2 ⟨rfl, rfl⟩
      have hp0 : ¬ ((mk + bxcnt f.box : Nat) : Int) < 0 := by omega
      go_wp2
      all_goals first | (exfalso; omega) | skip
      go_round
      case rel => exact ⟨k + 1, by omega, by go_num, by have := HM.out; exact congrArg (Value.int .i64) (by omega)⟩
      case measure => simp [intOf]; omega
    · have hkn : k = n := by omega
      subst hkn
      go_wp2
      go_ret
      exact ⟨ret_int (by rw [ftcnt_full HN.out]), rfl⟩
section
variable {β : Type}
theorem gcnt_le {c1 c2 : β → Nat} (h : ∀ y, c1 y ≤ c2 y) : ∀ ys : List β, gcnt c1 ys ≤ gcnt c2 ys
  | [] => Nat.le_refl _
  | y :: ys => by have := h y; have := gcnt_le h ys; simp only [gcnt]; omega
theorem gcnt_two (c : β → Nat) : ∀ ys : List β, gcnt (fun y => 2 * c y) ys = 2 * gcnt c ys
  | [] => rfl
  | y :: ys => by have := gcnt_two c ys; simp only [gcnt]; omega
theorem gcnt_one (c : β → Nat) : ∀ ys : List β, gcnt (fun y => c y + 1) ys = gcnt c ys + ys.length
  | [] => rfl
  | y :: ys => by have := gcnt_one c ys; simp only [gcnt, List.length_cons]; omega
theorem gcnt_bound {c : β → Nat} {B : Nat} : ∀ ys : List β, (∀ (k : Nat) y, ys[k]? = some y → c y ≤ B) → gcnt c ys ≤ ys.length * B
  | [], _ => by simp [gcnt]
  | y :: ys, h => by
    have h1 := h 0 y rfl
    have h2 := gcnt_bound ys (fun k z hz => h (k + 1) z (by simpa using hz))
    simp only [gcnt, List.length_cons, Nat.add_mul, Nat.one_mul]
    omega
end
theorem bxcnt_le (b : Bx) : bxcnt b ≤ 2 * bxN b := by
  unfold bxcnt bxN
  rw [gcnt_two List.length, gcnt_sum]
  omega
theorem ftcnt_le (fs : List Ft) : ftcnt fs ≤ 2 * ftN fs := by
  unfold ftcnt ftN
  rw [gcnt_one (fun f : Ft => bxcnt f.box)]
  have h1 := gcnt_le (fun f : Ft => bxcnt_le f.box) fs
  rw [gcnt_two (fun f : Ft => bxN f.box), gcnt_sum (fun f : Ft => bxN f.box)] at h1
  omega
theorem mark_le {fs : List Ft} (h : ftN fs ≤ 1048576) : 1 + ftcnt fs ≤ 8388608 := by have := ftcnt_le fs; omega
theorem mark_he {fs : List Ft} (h : ftN fs ≤ 1048576) : ∀ (k : Nat) f, fs[k]? = some f → ∀ (j : Nat) xs, f.box[j]? = some xs → xs.length ≤ 1048576 :=
  fun k f hf j xs hx => (bxN_bound ((ftN_bound h).2 k f hf)).2 j xs hx
theorem bvalid_lens {b : Bx} (h : bvalid b = true) (k : Nat) (xs : List Sp) (hx : b[k]? = some xs) : xs.length ≤ 40 := by
  obtain ⟨h4, hb⟩ := bvalid_four h
  have hk := (List.getElem?_eq_some_iff.1 hx).1
  have := hb k xs (by omega) hx
  unfold svalid at this
  simp only [Bool.and_eq_true, decide_eq_true_eq] at this
  omega
theorem fvalid_60 {fs : List Ft} (h : fvalid fs = true) : fs.length ≤ 60 := by
  unfold fvalid at h
  rw [Bool.and_eq_true] at h
  exact of_decide_eq_true h.1
theorem mark_vhe {fs : List Ft} (h : fvalid fs = true) : ∀ (k : Nat) f, fs[k]? = some f → ∀ (j : Nat) xs, f.box[j]? = some xs → xs.length ≤ 1048576 :=
  fun k f hf j xs hx => by have := bvalid_lens (fvalid_at h hf) j xs hx; omega
theorem mark_vle {fs : List Ft} (h : fvalid fs = true) : 1 + ftcnt fs ≤ 8388608 := by
  have h1 : ftcnt fs ≤ fs.length * 321 := gcnt_bound fs (fun k f hf => by
    have hb := fvalid_at h hf
    have h2 : bxcnt f.box ≤ f.box.length * 80 := gcnt_bound f.box (fun j xs hx => by have := bvalid_lens hb j xs hx; omega)
    rw [(bvalid_four hb).1] at h2
    show bxcnt f.box + 1 ≤ 321
    omega)
  have := fvalid_60 h
  omega
/-- A valid list's selection is valid. -/
theorem fvalid_sub {fs gs : List Ft} (h : fvalid fs = true) (hl : gs.length ≤ fs.length) (hs : ∀ g ∈ gs, g ∈ fs) : fvalid gs = true := by
  have h60 := fvalid_60 h
  unfold fvalid at h ⊢
  rw [Bool.and_eq_true, List.all_eq_true] at h ⊢
  exact ⟨decide_eq_true (by omega), fun g hg => h.2 g (hs g hg)⟩
theorem fvalid_nil : fvalid [] = true := rfl
end Go.Proofs.YtnnmkdaioajkkaaDoor
