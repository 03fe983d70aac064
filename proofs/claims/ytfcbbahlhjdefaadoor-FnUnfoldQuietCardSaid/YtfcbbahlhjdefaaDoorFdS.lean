/- Witnesses: the reference's walks. -/
import Derived.Test.YtfcbbahlhjdefaaDoorDt
import Derived.Test.YtfcbbahlhjdefaaDoorFmZ
import Derived.Test.YtfcbbahlhjdefaaDoorUSn
import Derived.Test.YtfcbbahlhjdefaaDoorDxAJ
import Derived.Test.YtfcbbahlhjdefaaDoorRdRs
import Derived.Test.YtfcbbahlhjdefaaDoorCuW
import Derived.Test.YtfcbbahlhjdefaaDoorFnX
/- The box of all packets: the program's walk. -/
namespace Go.Proofs.YtfcbbahlhjdefaaDoor
open Go.RowKit
/-- The first k sets are there. -/
def SD (S : Nat) (w : World) (k : Nat) : Prop := ∀ j, j < 4 → ∃ v, w.cell? ⟨S, j, none⟩ = some v ∧ ((j < k ∧ Sps (S + 1) w v [⟨0, top j⟩]) ∨ (k ≤ j ∧ v = .slice none 0 0))
theorem SD.below {S : Nat} {w w' : World} {k : Nat} (h : SD S w k) (hS : S < w.heap.size) (hb : Below w.heap.size w w') : SD S w' k := fun j hj => by
  obtain ⟨v, h1, h2⟩ := h j hj
  exact ⟨v, (hb.cell (p := ⟨S, j, none⟩) hS).trans h1, h2.imp (fun ⟨g1, g2⟩ => ⟨g1, g2.below hb⟩) id⟩
theorem SD.step {S : Nat} {w : World} {k : Nat} {v : Value} (h : SD S w k) (_hS : S < w.heap.size) (hk : k < 4) (hv : Sps (S + 1) w v [⟨0, top k⟩]) : SD S (w.setCell ⟨S, k, none⟩ v) (k + 1) := fun j hj => by
  have hkp : Kp (S + 1) w (w.setCell ⟨S, k, none⟩ v) := ⟨by simp, fun q q1 _ => Below.heap_setCell _ _ _ _ (by simp only; omega)⟩
  obtain ⟨u, h1, h2⟩ := h j hj
  by_cases e : j = k
  · subst e
    exact ⟨v, World.cell?_setCell_same' _ _ _ (by rw [h1]; rfl), .inl ⟨by omega, hv.keep hkp⟩⟩
  · refine ⟨u, by rw [World.cell?_setCell_other _ _ _ _ (fun e2 => e (Addr.mk.inj e2).2.1.symm)]; exact h1, ?_⟩
    rcases h2 with ⟨g1, g2⟩ | ⟨g1, g2⟩
    · exact .inl ⟨by omega, g2.keep hkp⟩
    · exact .inr ⟨by omega, g2⟩
set_option maxHeartbeats 2000000 in
set_option maxRecDepth 100000 in
theorem allSides_any (w : World) (ht : Tab w) :
    Calls Tryd.prog 35 #[] w fun e w' => ∃ v0 v1 v2 v3, e = .returned (.agg #[v0, v1, v2, v3]) ∧ All2 (Sps w.heap.size w') [v0, v1, v2, v3] ball ∧ Below w.heap.size w w' := by
  obtain ⟨W, hW⟩ : ∃ W, ((w.alloc (.cells #[.slice none 0 0, .slice none 0 0, .slice none 0 0, .slice none 0 0] 84)).alloc (.cells #[.slice none 0 0, .slice none 0 0, .slice none 0 0, .slice none 0 0] 84)) = W := ⟨_, rfl⟩
  have hal : Below w.heap.size w W := by rw [← hW]; (repeat' (first | with_reducible exact Below.refl _ _ | with_reducible assumption | with_reducible refine Below.setCell ?_ ?_ _ | with_reducible refine Below.alloc ?_ ?_ _ | with_reducible refine Below.drew ?_ | with_reducible refine belDrewN ?_ _ | with_reducible refine Below.trans ?_ (Below.mono (by assumption) ?_) | omega | (simp; omega) | (simp; done)))
  have HA4 := alloc2_cells w #[.slice none 0 0, .slice none 0 0, .slice none 0 0, .slice none 0 0] #[.slice none 0 0, .slice none 0 0, .slice none 0 0, .slice none 0 0] 84 84
  rw [hW] at HA4
  have qs : W.heap.size = w.heap.size + 1 + 1 := by rw [← hW]; simp
  have HR := Lib.hid (show ∀ w', Below (w.heap.size + 1) W w' → (∀ j, j < 4 → w'.cell? ⟨w.heap.size, j, none⟩ = some (.slice none 0 0)) ∧ ∀ j, w'.frozen? ⟨w.heap.size, j, none⟩ = false from fun w' hb => ⟨fun j hj => by
    rw [hb.cell (p := ⟨w.heap.size, j, none⟩) (by simp only; omega), (HA4.1 j).1]
    rcases (by omega : j = 0 ∨ j = 1 ∨ j = 2 ∨ j = 3) with rfl | rfl | rfl | rfl <;> rfl, fun j => by
    rw [hb.frozen (p := ⟨w.heap.size, j, none⟩) (by simp only; omega)]; exact (HA4.1 j).2⟩)
  have HS0 := Lib.hid (show SD (w.heap.size + 1) W 0 from fun j hj => ⟨.slice none 0 0, by
    rw [(HA4.2 j).1]
    rcases (by omega : j = 0 ∨ j = 1 ∨ j = 2 ∨ j = 3) with rfl | rfl | rfl | rfl <;> rfl, .inr ⟨Nat.zero_le _, rfl⟩⟩)
  have HF0 := Lib.hid (fun j => (HA4.2 j).2)
  clear HA4
  go_enter Tryd.func35, Tryd.ntmps35
  go_wp2_with fail
  go_loopw [2, 3] (fun _ i wr => ∃ k : Nat, k ≤ 4 ∧ i = .int .i64 k ∧ Hid (SD (w.heap.size + 1) wr k) ∧ Hid (∀ j, wr.frozen? ⟨w.heap.size + 1, j, none⟩ = false) ∧ Below (w.heap.size + 1) W wr) (fun _ i _ => 4 - (intOf i).toNat)
  case atStart => exact ⟨0, by omega, rfl, HS0, HF0, Below.refl _ _⟩
  case round =>
    clear HS0 HF0 hW
    obtain ⟨k, hk, rfl, HS, HF, hbr⟩ := hrel
    have hzr := hbr.size
    have hwr : Below w.heap.size w wr := hal.trans (hbr.mono (by omega))
    have hSz : w.heap.size + 1 < wr.heap.size := by omega
    by_cases hlt : k < 4
    · have i1 : (k : Int) < 4 := by omega
      have i2 : (0 : Int) ≤ (k : Int) := by omega
      obtain ⟨u, hu, _⟩ := HS.out k hlt
      have hfk := HF.out k
      go_wp2_with fail
      refine (FieldTop_any k hlt _ (ht.below hwr)).mono ?_
      rintro e _ ⟨rfl, rfl⟩
      have hal2 : Below wr.heap.size wr (wr.alloc (.cells #[.int .i64 0, .int .i64 (top k)] 64)) := (Below.refl _ _).alloc (Nat.le_refl _) _
      have HS2 := Lib.hid ((HS.out.below hSz hal2).step (v := .slice (some ⟨wr.heap.size, 0, none⟩) 1 1) (by simp; omega) hlt ⟨some ⟨wr.heap.size, 0, none⟩, 1, rfl, by simp, by simp [maxLen], fun i x hx => by
        match i, hx with
        | 0, hx =>
          cases hx
          refine ⟨_, _, rfl, by omega, by simp, fun j c hj => ?_⟩
          match j, hj with
          | 0, hj => cases hj; simp
          | 1, hj => cases hj; simp
          | j + 2, hj => simp at hj
        | i + 1, hx => simp at hx⟩)
      have hb2 : Below (w.heap.size + 1) W ((wr.alloc (.cells #[.int .i64 0, .int .i64 (top k)] 64)).setCell ⟨w.heap.size + 1, k, none⟩ (.slice (some ⟨wr.heap.size, 0, none⟩) 1 1)) := (hbr.alloc (by omega) _).setCell (Nat.le_refl _) _
      have HF2 := Lib.hid (show ∀ j, ((wr.alloc (.cells #[.int .i64 0, .int .i64 (top k)] 64)).setCell ⟨w.heap.size + 1, k, none⟩ (.slice (some ⟨wr.heap.size, 0, none⟩) 1 1)).frozen? ⟨w.heap.size + 1, j, none⟩ = false from fun j => by
        rw [World.frozen?_setCell, hal2.frozen (p := ⟨w.heap.size + 1, j, none⟩) hSz]; exact HF.out j)
      rw [World.setCell_alloc_past _ _ _ _ hSz] at HS2 HF2 hb2
      go_wp2
      go_roundw
      case rel => exact ⟨k + 1, by omega, by go_num, HS2, HF2, hb2⟩
      case measure => simp [intOf]; omega
    · have hkn : k = 4 := by omega
      subst hkn
      obtain ⟨v0, g0, h0⟩ := HS.out 0 (by omega)
      obtain ⟨v1, g1, h1⟩ := HS.out 1 (by omega)
      obtain ⟨v2, g2, h2⟩ := HS.out 2 (by omega)
      obtain ⟨v3, g3, h3⟩ := HS.out 3 (by omega)
      replace h0 := h0.elim (fun h => h.2) (fun h => absurd h.1 (by omega))
      replace h1 := h1.elim (fun h => h.2) (fun h => absurd h.1 (by omega))
      replace h2 := h2.elim (fun h => h.2) (fun h => absurd h.1 (by omega))
      replace h3 := h3.elim (fun h => h.2) (fun h => absurd h.1 (by omega))
      obtain ⟨hr, hrf⟩ := HR.out wr hbr
      have r0 := hr 0 (by omega)
      have r1 := hr 1 (by omega)
      have r2 := hr 2 (by omega)
      have r3 := hr 3 (by omega)
      obtain ⟨a0, c0, rfl, -, -⟩ := h0.form
      obtain ⟨a1, c1, rfl, -, -⟩ := h1.form
      obtain ⟨a2, c2, rfl, -, -⟩ := h2.form
      obtain ⟨a3, c3, rfl, -, -⟩ := h3.form
      simp only [List.length_cons, List.length_nil, Nat.zero_add] at *
      have hwW : Below w.heap.size w ((((wr.setCell ⟨w.heap.size, 0, none⟩ (.slice a0 1 c0)).setCell ⟨w.heap.size, 1, none⟩ (.slice a1 1 c1)).setCell ⟨w.heap.size, 2, none⟩ (.slice a2 1 c2)).setCell ⟨w.heap.size, 3, none⟩ (.slice a3 1 c3)) := (((hwr.setCell (Nat.le_refl _) _).setCell (Nat.le_refl _) _).setCell (Nat.le_refl _) _).setCell (Nat.le_refl _) _
      have hkp : Kp (w.heap.size + 1 + 1) wr ((((wr.setCell ⟨w.heap.size, 0, none⟩ (.slice a0 1 c0)).setCell ⟨w.heap.size, 1, none⟩ (.slice a1 1 c1)).setCell ⟨w.heap.size, 2, none⟩ (.slice a2 1 c2)).setCell ⟨w.heap.size, 3, none⟩ (.slice a3 1 c3)) := ⟨by simp, fun q q1 _ => by
        rw [Below.heap_setCell _ _ _ _ (by simp only; omega), Below.heap_setCell _ _ _ _ (by simp only; omega), Below.heap_setCell _ _ _ _ (by simp only; omega), Below.heap_setCell _ _ _ _ (by simp only; omega)]⟩
      have H0 := Lib.hid ((h0.keep hkp).mono (show w.heap.size ≤ w.heap.size + 1 + 1 by omega))
      have H1 := Lib.hid ((h1.keep hkp).mono (show w.heap.size ≤ w.heap.size + 1 + 1 by omega))
      have H2 := Lib.hid ((h2.keep hkp).mono (show w.heap.size ≤ w.heap.size + 1 + 1 by omega))
      have H3 := Lib.hid ((h3.keep hkp).mono (show w.heap.size ≤ w.heap.size + 1 + 1 by omega))
      clear h0 h1 h2 h3 hr hkp
      go_wp2
      refine bodyPost_ret (v := .agg #[.slice a0 1 c0, .slice a1 1 c1, .slice a2 1 c2, .slice a3 1 c3]) ?_ rfl ⟨_, _, _, _, rfl, ?_, hwW⟩
      · simp [results, Tryd.results35, go_sem, r0, r1, r2, r3]
      · refine ⟨rfl, fun j x y hx hy => ?_⟩
        match j, hx, hy with
        | 0, hx, hy => cases hx; cases hy; exact H0.out
        | 1, hx, hy => cases hx; cases hy; exact H1.out
        | 2, hx, hy => cases hx; cases hy; exact H2.out
        | 3, hx, hy => cases hx; cases hy; exact H3.out
        | j + 4, hx, hy => simp at hx
end Go.Proofs.YtfcbbahlhjdefaaDoor
/- Parts of all packets: the program's walk, all rules. -/
namespace Go.Proofs.YtfcbbahlhjdefaaDoor
open Go.RowKit
end Go.Proofs.YtfcbbahlhjdefaaDoor
/- The program's RegionValid and RegionHas. -/
namespace Go.Proofs.YtfcbbahlhjdefaaDoor
open Go.RowKit
theorem Box4.bel {w w' : World} {b : Nat} {v0 v1 v2 v3 : Int} (h : Box4 w b v0 v1 v2 v3) (hb : Below w.heap.size w w') : Box4 w' b v0 v1 v2 v3 := h.mv (R := b + 1) (Mv.of_below hb) h.lt (by omega)
end Go.Proofs.YtfcbbahlhjdefaaDoor
/- Witnesses: the program's walks. -/
namespace Go.Proofs.YtfcbbahlhjdefaaDoor
open Go.RowKit
/-- Two cells of a block. -/
def C2 (w : World) (b : Nat) (x y : Value) : Prop := b < w.heap.size ∧ w.cell? ⟨b, 0, none⟩ = some x ∧ w.cell? ⟨b, 1, none⟩ = some y
end Go.Proofs.YtfcbbahlhjdefaaDoor
/- Parts of all packets: both functions. -/
namespace Go.Proofs.YtfcbbahlhjdefaaDoor
open Go.RowKit
end Go.Proofs.YtfcbbahlhjdefaaDoor
namespace Go.Proofs.YtfcbbahlhjdefaaDoor
open Go.RowKit
end Go.Proofs.YtfcbbahlhjdefaaDoor
