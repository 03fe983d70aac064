/- Elements of lists of lists of the call's own; marks as plain functions. -/
import Derived.Test.YthflbpoogolebaaDoorFoD
import Derived.Test.YthflbpoogolebaaDoorFlTr0
import Derived.Test.YthflbpoogolebaaDoorFmC
import Derived.Test.YthflbpoogolebaaDoorFmZ
namespace Go.Proofs.YthflbpoogolebaaDoor
open Go.RowKit
theorem Chg.setCell {lo hi : Nat} (w : World) {p : Addr} {c : Value} (h1 : lo ≤ p.block) (h2 : p.block < hi) : Chg lo hi w (w.setCell p c) :=
  ⟨(Below.refl _ _).setCell h1 _, fun k k1 _ => Below.heap_setCell _ _ _ _ (by omega)⟩
theorem Chg.grown {l m : Nat} {w w' : World} {r : Option Nat} (hg : w.grownBy w' r) (hr : ∀ k, r = some k → l ≤ k ∧ k < m) (hl : l ≤ w.heap.size) : Chg l m w w' :=
  ⟨(Below.refl l w).grown hg hl (fun k hk => (hr k hk).1), fun k k1 k2 => hg.block k k2 (fun e => by have := (hr k e.symm).2; omega)⟩
theorem set_same {α : Type} {l : List α} {k : Nat} {x : α} (h : l[k]? = some x) : l.set k x = l := by
  apply List.ext_getElem?
  intro j
  rw [List.getElem?_set]
  split
  · rename_i e
    subst e
    have := (List.getElem?_eq_some_iff.1 h).1
    rw [if_pos this, h]
  · rfl
theorem OwnG.elem {α β : Type} {e sz : Nat} {enc : α → List Value} {P : World → Nat → Nat → α → β → Prop} (henc : ∀ x, (enc x).length = sz) (hk : Kind P) {w : World} {lo hi : Nat} {v : Value} {ys : List β} (h : OwnG e sz enc P w lo hi v ys) {k : Nat} {y : β} (hy : ys[k]? = some y) :
    ∃ (g cap : Nat) (x : α) (l m : Nat), v = .slice (some ⟨g, 0, none⟩) ys.length cap ∧ lo ≤ l ∧ l ≤ m ∧ m ≤ hi ∧ P w l m x y ∧ (∀ (j : Nat) c, (enc x)[j]? = some c → w.cell? ⟨g, k * sz + j, none⟩ = some c) ∧ lo ≤ g ∧ g < hi ∧ g < w.heap.size ∧ (∀ o, w.frozen? ⟨g, o, none⟩ = false) ∧ (g < l ∨ m ≤ g) ∧
      (∀ w' y', Chg l m w w' → P w' l m x y' → OwnG e sz enc P w' lo hi v (ys.set k y')) ∧
      (∀ (j : Nat) c x' y', j < sz → enc x' = (enc x).set j c → P (w.setCell ⟨g, k * sz + j, none⟩ c) l m x' y' → OwnG e sz enc P (w.setCell ⟨g, k * sz + j, none⟩ c) lo hi v (ys.set k y')) := by
  obtain ⟨vs, h1, h2, h3, h4⟩ := h
  have hlen := h4.len
  obtain ⟨x, hx⟩ : ∃ x, vs[k]? = some x := ⟨_, List.getElem?_eq_getElem (by rw [hlen]; exact (List.getElem?_eq_some_iff.1 hy).1)⟩
  obtain ⟨l, m, k1, k2, k3, ⟨kP, kO⟩, kR⟩ := OwnD.step (hk.leO w _) k h4 hx hy
  rcases OwnSl.form h1 with ⟨_, h0⟩ | ⟨g, cap, hv, hg1, hg2, hg3, hg4, hg5⟩
  · rw [h0] at hx; simp at hx
  · have hgo : v.ownBlock = some g := by rw [hv]; rfl
    have hoff := kO g hgo
    rw [hlen] at hv
    refine ⟨g, cap, x, l, m, hv, k1, k2, k3, kP, ?_, hg1, h2 g hgo, hg2, hg5, hoff, fun w' y' hc hp => ?_, fun j c x' y' hj he hp => ?_⟩
    · have h1' := h1
      rw [hv] at h1'
      exact OwnSl.cell henc h1' hx
    · refine ⟨vs, h1.keepB (fun z hz _ hzs => ?_), h2, h3, ?_⟩
      · rw [hgo] at hz
        cases hz
        rcases hoff with ho | ho
        · exact hc.below.block g ho
        · exact hc.high g ho hzs
      · have := kR (fun l' h' a b => P w' l' h' a b ∧ Off v.ownBlock l' h') x y' ⟨hp, kO⟩ (fun l' h' a b hd q => ⟨hk.keep _ _ _ _ _ _ q.1 (hc.kpi hd), q.2⟩)
        rwa [set_same hx] at this
    · have h1' := h1
      rw [hv] at h1'
      obtain ⟨hst, _⟩ := OwnSl.storeAt henc hlen.symm h1' hx (y' := x') hj he
      refine ⟨vs.set k x', by rw [hv]; exact hst, h2, h3, ?_⟩
      refine kR (fun l' h' a b => P (w.setCell ⟨g, k * sz + j, none⟩ c) l' h' a b ∧ Off v.ownBlock l' h') x' y' ⟨hp, kO⟩ (fun l' h' a b hd q => ⟨hk.keep _ _ _ _ _ _ q.1 (Kpi.setCell w ?_), q.2⟩)
      exact q.2 g hgo
/-- Counts and marks of lists. -/
def gcnt {β : Type} (cnt : β → Nat) : List β → Nat
  | [] => 0
  | y :: ys => cnt y + gcnt cnt ys
def gmark {β : Type} (cnt : β → Nat) (mk : Nat → β → β) : Nat → List β → List β
  | _, [] => []
  | m, y :: ys => mk m y :: gmark cnt mk (m + cnt y) ys
section
variable {β : Type} {cnt : β → Nat} {mk : Nat → β → β}
theorem gcnt_append : ∀ (a b : List β), gcnt cnt (a ++ b) = gcnt cnt a + gcnt cnt b
  | [], b => by simp [gcnt]
  | y :: a, b => by simp only [List.cons_append, gcnt, gcnt_append a b]; omega
theorem gcnt_succ {ys : List β} {k : Nat} {y : β} (h : ys[k]? = some y) : gcnt cnt (ys.take (k + 1)) = gcnt cnt (ys.take k) + cnt y := by
  rw [List.take_add_one, h, gcnt_append]
  simp [gcnt]
theorem gcnt_take (ys : List β) (k : Nat) : gcnt cnt (ys.take k) ≤ gcnt cnt ys := by
  conv => rhs; rw [← List.take_append_drop k ys, gcnt_append]
  omega
theorem gcnt_at {ys : List β} {k : Nat} {y : β} (h : ys[k]? = some y) : gcnt cnt (ys.take k) + cnt y ≤ gcnt cnt ys := by
  rw [← gcnt_succ h]
  exact gcnt_take _ _
theorem gmark_append : ∀ (m : Nat) (a b : List β), gmark cnt mk m (a ++ b) = gmark cnt mk m a ++ gmark cnt mk (m + gcnt cnt a) b
  | m, [], b => by simp [gmark, gcnt]
  | m, y :: a, b => by simp only [List.cons_append, gmark, gcnt, gmark_append (m + cnt y) a b, Nat.add_assoc]
theorem gmark_len : ∀ (m : Nat) (a : List β), (gmark cnt mk m a).length = a.length
  | _, [] => rfl
  | m, y :: a => by simp [gmark, gmark_len]
theorem gmark_succ {ys : List β} {k m : Nat} {y : β} (h : ys[k]? = some y) : gmark cnt mk m (ys.take (k + 1)) = gmark cnt mk m (ys.take k) ++ [mk (m + gcnt cnt (ys.take k)) y] := by
  rw [List.take_add_one, h, gmark_append]
  simp [gmark]
theorem gmark_step {ys : List β} {k m : Nat} {y : β} (h : ys[k]? = some y) : (gmark cnt mk m (ys.take k) ++ ys.drop k).set k (mk (m + gcnt cnt (ys.take k)) y) = gmark cnt mk m (ys.take (k + 1)) ++ ys.drop (k + 1) := by
  have hk := (List.getElem?_eq_some_iff.1 h)
  obtain ⟨h1, h2⟩ := hk
  have hl : (gmark cnt mk m (ys.take k)).length = k := by rw [gmark_len, List.length_take]; omega
  rw [List.set_append_right _ _ (by omega), hl, Nat.sub_self, List.drop_eq_getElem_cons h1, List.set_cons_zero, gmark_succ h, List.append_assoc]
  rfl
theorem gmark_cur {ys : List β} {k m : Nat} {y : β} (h : ys[k]? = some y) : (gmark cnt mk m (ys.take k) ++ ys.drop k)[k]? = some y := by
  have h1 := (List.getElem?_eq_some_iff.1 h).1
  have hl : (gmark cnt mk m (ys.take k)).length = k := by rw [gmark_len, List.length_take]; omega
  rw [List.getElem?_append_right (by omega), hl, Nat.sub_self, List.getElem?_drop, Nat.add_zero, h]
theorem gmark_get {ys : List β} {k m : Nat} {y : β} (h : ys[k]? = some y) : (gmark cnt mk m ys)[k]? = some (mk (m + gcnt cnt (ys.take k)) y) := by
  have h1 := (List.getElem?_eq_some_iff.1 h).1
  have hl : (gmark cnt mk m (ys.take (k + 1))).length = k + 1 := by rw [gmark_len, List.length_take]; omega
  conv => lhs; rw [← List.take_append_drop (k + 1) ys, gmark_append]
  rw [List.getElem?_append_left (by omega), gmark_succ h, List.getElem?_append_right (by rw [gmark_len, List.length_take]; omega)]
  rw [gmark_len, List.length_take, Nat.min_eq_left (by omega), Nat.sub_self]
  rfl
end
theorem gcnt_sum {β : Type} (cnt : β → Nat) (l : List β) : gcnt cnt l = sumTo cnt l l.length := by
  have key : ∀ k, k ≤ l.length → gcnt cnt (l.take k) = sumTo cnt l k := by
    intro k
    induction k with
    | zero => intro _; simp [gcnt, sumTo]
    | succ k ih =>
      intro hk
      obtain ⟨x, hx⟩ : ∃ x, l[k]? = some x := ⟨_, List.getElem?_eq_getElem (by omega)⟩
      rw [gcnt_succ hx, ih (by omega), sumTo_succ hx]
  have := key l.length (Nat.le_refl _)
  rwa [List.take_length] at this
section
variable {β : Type}
theorem gcnt_le {c1 c2 : β → Nat} (h : ∀ y, c1 y ≤ c2 y) : ∀ ys : List β, gcnt c1 ys ≤ gcnt c2 ys
  | [] => Nat.le_refl _
  | y :: ys => by have := h y; have := gcnt_le h ys; simp only [gcnt]; omega
theorem gcnt_two (c : β → Nat) : ∀ ys : List β, gcnt (fun y => 2 * c y) ys = 2 * gcnt c ys
  | [] => rfl
  | y :: ys => by have := gcnt_two c ys; simp only [gcnt]; omega
theorem gcnt_one (c : β → Nat) : ∀ ys : List β, gcnt (fun y => c y + 1) ys = gcnt c ys + ys.length
  | [] => rfl
  | y :: ys => by have := gcnt_one c ys; simp only [gcnt, List.length_cons]; omega
theorem gcnt_bound {c : β → Nat} {B : Nat} : ∀ ys : List β, (∀ (k : Nat) y, ys[k]? = some y → c y ≤ B) → gcnt c ys ≤ ys.length * B
  | [], _ => by simp [gcnt]
  | y :: ys, h => by
    have h1 := h 0 y rfl
    have h2 := gcnt_bound ys (fun k z hz => h (k + 1) z (by simpa using hz))
    simp only [gcnt, List.length_cons, Nat.add_mul, Nat.one_mul]
    omega
end
theorem bvalid_lens {b : Bx} (h : bvalid b = true) (k : Nat) (xs : List Sp) (hx : b[k]? = some xs) : xs.length ≤ 40 := by
  obtain ⟨h4, hb⟩ := bvalid_four h
  have hk := (List.getElem?_eq_some_iff.1 hx).1
  have := hb k xs (by omega) hx
  unfold svalid at this
  simp only [Bool.and_eq_true, decide_eq_true_eq] at this
  omega
theorem fvalid_60 {fs : List Ft} (h : fvalid fs = true) : fs.length ≤ 60 := by
  unfold fvalid at h
  rw [Bool.and_eq_true] at h
  exact of_decide_eq_true h.1
theorem fvalid_sub {fs gs : List Ft} (h : fvalid fs = true) (hl : gs.length ≤ fs.length) (hs : ∀ g ∈ gs, g ∈ fs) : fvalid gs = true := by
  have h60 := fvalid_60 h
  unfold fvalid at h ⊢
  rw [Bool.and_eq_true, List.all_eq_true] at h ⊢
  exact ⟨decide_eq_true (by omega), fun g hg => h.2 g (hs g hg)⟩
theorem fvalid_nil : fvalid [] = true := rfl
end Go.Proofs.YthflbpoogolebaaDoor
