/- The law FnFlowsValid: drawn flows (the draw). -/
import Derived.Test.YtlppchkilinpfaaDoorRdFl
import Derived.Test.YtlppchkilinpfaaDoorAlive
namespace Go.Proofs.YtlppchkilinpfaaDoor
open Go.RowKit
set_option maxHeartbeats 1000000 in
theorem drawFV_any (bs : List Int) (v : Value) (w : World) (h : CodeAt w v bs) :
    Calls Tryd.prog 25 #[v] w fun e w' => ∃ v' ys, e = .returned v' ∧ OwnFl w.heap.size w' v' ys ∧ ys.length ≤ 23 ∧ Below w.heap.size w w' := by
  go_enter Tryd.func25, Tryd.ntmps25
  go_wp2_with fail
  refine (open_any bs _ _ h).mono ?_
  rintro e w1 ⟨R, bs', rfl, hR, hr1, hb1⟩
  have hz1 := hb1.size
  go_wp2_with fail
  refine (drawFls_any R bs' 0 2 _ hr1 (by omega) (by omega) (by omega)).mono ?_
  rintro e w2 ⟨v2, ys, q, rfl, ho, hl, -, -, hm2⟩
  have hb2 : Below w.heap.size w w2 := hb1.trans (hm2.below (by omega) (by omega))
  go_wp2_with fail
  go_ret
  exact ⟨v2, ys, rfl, OwnSl.mono ho (by omega), hl, hb2⟩
/-- What a valid list's beginning and its lengthening by a reversed flow are. -/
theorem fvalid_take {xs : List Fl} (h : fvalid xs = true) (k : Nat) : fvalid (xs.take k) = true := by
  obtain ⟨h1, h2⟩ := (fvalid_iff xs).1 h
  refine (fvalid_iff _).2 ⟨by simp; omega, fun i x hi hx => ?_⟩
  simp at hi
  have hik : i < k := by omega
  have hil : i < xs.length := by omega
  rw [List.getElem?_take_of_lt hik] at hx
  obtain ⟨g1, g2⟩ := h2 i x hil hx
  exact ⟨g1, fun j y hj hy => g2 j y hj (by rwa [List.getElem?_take_of_lt (by omega)] at hy)⟩
theorem revv_revv {p : Pk} (h : p.ok = true) : Pk.revv (Pk.revv p) = p := by
  obtain ⟨a, b, c, d⟩ := p
  have hok2 : Pk.ok ⟨b, a, c, d⟩ = true := by
    simp only [Pk.ok, Bool.and_eq_true] at h ⊢
    exact ⟨⟨⟨h.1.1.2, h.1.1.1⟩, h.1.2⟩, h.2⟩
  simp [Pk.revv, Pk.rev, h, hok2]
theorem fvalid_more {xs : List Fl} {x : Fl} (h : fvalid xs = true) (hx : xs[0]? = some x) (t : Int) : fvalid (xs ++ [⟨Pk.revv x.who, t⟩]) = false := by
  obtain ⟨_, h2⟩ := (fvalid_iff xs).1 h
  have h0 : 0 < xs.length := (List.getElem?_eq_some_iff.1 hx).1
  have hok : x.who.ok = true := by have := (h2 0 x h0 hx).1; simp only [fok, Bool.and_eq_true] at this; exact this.1
  refine fvalid_bad (i := xs.length) (x := ⟨Pk.revv x.who, t⟩) (by simp) (Or.inr ⟨0, x, h0, ?_, ?_⟩)
  · rw [List.getElem?_append_left h0]; exact hx
  · simp [sameP, revv_revv hok]
end Go.Proofs.YtlppchkilinpfaaDoor
