/- A rule for all packets: everything behind it is dead (plain laws). -/
import Derived.Test.YtibanpeiigbofaaDoorDrS
import Derived.Test.YtibanpeiigbofaaDoorMbMf
import Derived.Test.YtibanpeiigbofaaDoorPaP
namespace Go.Proofs.YtibanpeiigbofaaDoor
open Go.RowKit
theorem bcut_ball {b : Bx} (hb : bvalid b = true) (he : bempty b = false) : bcut b ball = [] := by
  unfold bcut
  rw [if_neg]
  · refine List.eq_nil_iff_forall_not_mem.2 (fun z hz => ?_)
    obtain ⟨i, hi, h1, _⟩ := (bcuts_mem 4).1 hz
    have h2 : bout b ball i = [] := by
      have h3 : sother (top i) 0 (ball.getD i []) = [] := by
        rcases (by omega : i = 0 ∨ i = 1 ∨ i = 2 ∨ i = 3) with rfl | rfl | rfl | rfl <;> rfl
      unfold bout
      rw [h3]
      unfold smeet
      simp
    rw [h2] at h1
    cases h1
  · obtain ⟨p, h1, h2⟩ := bfull_has hb he
    intro h
    have h3 := bempty_has (bmeet_len (bvalid_iff.1 hb).1 rfl) h p
    rw [bmeet_has (bvalid_iff.1 hb).1 rfl, h2, ball_has h1] at h3
    cases h3
theorem blessB_ball {b : Bx} {xs : List Bx} (hb : bvalid b = true) : blessB b (ball :: xs) = some [] := by
  unfold blessB
  have h1 : bless1 (bstart b) ball = [] := by
    unfold bstart
    split
    · rfl
    · rename_i he
      unfold bless1
      rw [List.flatMap_cons, bcut_ball hb (by simpa using he)]
      rfl
  unfold bless
  rw [h1, if_pos (show rvalid [] = true from rfl), bless_nil]
theorem livek_ball {fs : List Ft} {c : Bool} {k : Nat} (hv : fvalid fs = true) (hk : k < fs.length) : livek (⟨ball, c⟩ :: fs) (k + 1) = some [] := by
  obtain ⟨f, hf⟩ : ∃ f, fs[k]? = some f := ⟨_, List.getElem?_eq_getElem hk⟩
  unfold livek
  rw [List.getElem?_cons_succ, hf]
  simp only [List.take_succ_cons, fboxes, List.map_cons]
  exact blessB_ball (fvalid_at hv hf)
theorem livek_zero {fs : List Ft} {c : Bool} : livek (⟨ball, c⟩ :: fs) 0 = some [ball] := rfl
theorem deadl_ball {fs : List Ft} {c : Bool} (hv : fvalid fs = true) : ∀ n, n ≤ fs.length → (deadl (⟨ball, c⟩ :: fs) (n + 1)).length = n
  | 0, _ => rfl
  | n + 1, h => by
    rw [deadl, List.length_append, deadl_ball hv n (by omega), deadk_iff.2 (livek_ball hv (show n < fs.length by omega))]
    rfl
theorem fvalid_ball {fs : List Ft} {c : Bool} (hv : fvalid fs = true) (h : fs.length < 60) : fvalid (⟨ball, c⟩ :: fs) = true := by
  rw [fvalid_all] at hv ⊢
  refine ⟨by simp; omega, fun f hf => ?_⟩
  rcases List.mem_cons.1 hf with rfl | hf
  · exact ball_valid
  · exact hv.2 f hf
theorem deads_ball {fs : List Ft} {c : Bool} (hv : fvalid fs = true) (h : fs.length < 60) : (deads (⟨ball, c⟩ :: fs)).length = fs.length ∧ (dropd (⟨ball, c⟩ :: fs)).length = 1 := by
  have h1 := fvalid_ball (c := c) hv h
  have h2 : (deads (⟨ball, c⟩ :: fs)).length = fs.length := by
    unfold deads
    rw [if_pos h1]
    exact deadl_ball hv _ (Nat.le_refl _)
  refine ⟨h2, ?_⟩
  rw [dropd_len h1, h2]
  simp
end Go.Proofs.YtibanpeiigbofaaDoor
