/- Bounds of the marks; how a result of a law is met. -/
import Derived.Test.YtkcnbkkgpampaaaDoorFnM
import Derived.Test.YtkcnbkkgpampaaaDoorFmE
import Derived.Test.YtkcnbkkgpampaaaDoorFmDb
namespace Go.Proofs.YtkcnbkkgpampaaaDoor
open Go.RowKit
section
variable {β : Type}
theorem gcnt_le {c1 c2 : β → Nat} (h : ∀ y, c1 y ≤ c2 y) : ∀ ys : List β, gcnt c1 ys ≤ gcnt c2 ys
  | [] => Nat.le_refl _
  | y :: ys => by have := h y; have := gcnt_le h ys; simp only [gcnt]; omega
theorem gcnt_two (c : β → Nat) : ∀ ys : List β, gcnt (fun y => 2 * c y) ys = 2 * gcnt c ys
  | [] => rfl
  | y :: ys => by have := gcnt_two c ys; simp only [gcnt]; omega
theorem gcnt_one (c : β → Nat) : ∀ ys : List β, gcnt (fun y => c y + 1) ys = gcnt c ys + ys.length
  | [] => rfl
  | y :: ys => by have := gcnt_one c ys; simp only [gcnt, List.length_cons]; omega
theorem gcnt_bound {c : β → Nat} {B : Nat} : ∀ ys : List β, (∀ (k : Nat) y, ys[k]? = some y → c y ≤ B) → gcnt c ys ≤ ys.length * B
  | [], _ => by simp [gcnt]
  | y :: ys, h => by
    have h1 := h 0 y rfl
    have h2 := gcnt_bound ys (fun k z hz => h (k + 1) z (by simpa using hz))
    simp only [gcnt, List.length_cons, Nat.add_mul, Nat.one_mul]
    omega
end
theorem bxcnt_le (b : Bx) : bxcnt b ≤ 2 * bxN b := by
  unfold bxcnt bxN
  rw [gcnt_two List.length, gcnt_sum]
  omega
theorem ftcnt_le (fs : List Ft) : ftcnt fs ≤ 2 * ftN fs := by
  unfold ftcnt ftN
  rw [gcnt_one (fun f : Ft => bxcnt f.box)]
  have h1 := gcnt_le (fun f : Ft => bxcnt_le f.box) fs
  rw [gcnt_two (fun f : Ft => bxN f.box), gcnt_sum (fun f : Ft => bxN f.box)] at h1
  omega
theorem mark_le {fs : List Ft} (h : ftN fs ≤ 1048576) : 1 + ftcnt fs ≤ 8388608 := by have := ftcnt_le fs; omega
theorem mark_he {fs : List Ft} (h : ftN fs ≤ 1048576) : ∀ (k : Nat) f, fs[k]? = some f → ∀ (j : Nat) xs, f.box[j]? = some xs → xs.length ≤ 1048576 :=
  fun k f hf j xs hx => (bxN_bound ((ftN_bound h).2 k f hf)).2 j xs hx
theorem bvalid_lens {b : Bx} (h : bvalid b = true) (k : Nat) (xs : List Sp) (hx : b[k]? = some xs) : xs.length ≤ 40 := by
  obtain ⟨h4, hb⟩ := bvalid_four h
  have hk := (List.getElem?_eq_some_iff.1 hx).1
  have := hb k xs (by omega) hx
  unfold svalid at this
  simp only [Bool.and_eq_true, decide_eq_true_eq] at this
  omega
theorem fvalid_60 {fs : List Ft} (h : fvalid fs = true) : fs.length ≤ 60 := by
  unfold fvalid at h
  rw [Bool.and_eq_true] at h
  exact of_decide_eq_true h.1
theorem mark_vhe {fs : List Ft} (h : fvalid fs = true) : ∀ (k : Nat) f, fs[k]? = some f → ∀ (j : Nat) xs, f.box[j]? = some xs → xs.length ≤ 1048576 :=
  fun k f hf j xs hx => by have := bvalid_lens (fvalid_at h hf) j xs hx; omega
theorem mark_vle {fs : List Ft} (h : fvalid fs = true) : 1 + ftcnt fs ≤ 8388608 := by
  have h1 : ftcnt fs ≤ fs.length * 321 := gcnt_bound fs (fun k f hf => by
    have hb := fvalid_at h hf
    have h2 : bxcnt f.box ≤ f.box.length * 80 := gcnt_bound f.box (fun j xs hx => by have := bvalid_lens hb j xs hx; omega)
    rw [(bvalid_four hb).1] at h2
    show bxcnt f.box + 1 ≤ 321
    omega)
  have := fvalid_60 h
  omega
/-- A valid list's selection is valid. -/
theorem fvalid_sub {fs gs : List Ft} (h : fvalid fs = true) (hl : gs.length ≤ fs.length) (hs : ∀ g ∈ gs, g ∈ fs) : fvalid gs = true := by
  have h60 := fvalid_60 h
  unfold fvalid at h ⊢
  rw [Bool.and_eq_true, List.all_eq_true] at h ⊢
  exact ⟨decide_eq_true (by omega), fun g hg => h.2 g (hs g hg)⟩
theorem fvalid_nil : fvalid [] = true := rfl
end Go.Proofs.YtkcnbkkgpampaaaDoor
