/- The law FnKnownFlow: what it says of the reference's function, and the draw. -/
import Derived.Test.YtlppchkilinpfaaDoorRdMo
import Derived.Test.YtlppchkilinpfaaDoorRdFV
import Derived.Test.YtlppchkilinpfaaDoorFlP
namespace Go.Proofs.YtlppchkilinpfaaDoor
open Go.RowKit
theorem kmatch_rev {p : Pk} (h : p.ok = true) (now : Int) (x : Fl) : kmatch p.revv now x = kmatch p now x := by
  simp only [kmatch, sameP, revv_revv h, Bool.or_comm]
theorem ok_revv {p : Pk} (h : p.ok = true) : p.revv.ok = true := by
  rw [revv_ok h]
  simp only [Pk.ok, Pk.rev, Bool.and_eq_true] at h ⊢
  exact ⟨⟨⟨h.1.1.2, h.1.1.1⟩, h.1.2⟩, h.2⟩
theorem known_rev {xs : List Fl} {p : Pk} {now : Int} (h : p.ok = true) : known xs p.revv now = known xs p now := by
  have e : kmatch p.revv now = kmatch p now := funext (kmatch_rev h now)
  simp only [known, vall, kfind, e, ok_revv h, h]
theorem known_later {xs : List Fl} {p : Pk} {now : Int} (hv : vall xs p now = true) (h : known xs p now = -1) : known xs p (now + 1) = -1 := by
  refine known_none (fun i x hi hx => ?_)
  have h0 : kfind xs p now = -1 := by simpa [known, hv] using h
  unfold kfind at h0
  cases hf : xs.findIdx? (kmatch p now) with
  | some k => rw [hf] at h0; simp at h0
  | none =>
    have := List.findIdx?_eq_none_iff.1 hf x (List.mem_of_getElem? hx)
    simp only [kmatch, Bool.and_eq_false_iff, decide_eq_false_iff_not] at this ⊢
    rcases this with h | h
    · exact .inl h
    · exact .inr (by omega)
theorem known_at {xs : List Fl} {p : Pk} {now : Int} {k : Nat} (hv : vall xs p now = true) (h : known xs p now = k) : ∃ x, xs[k]? = some x ∧ now ≤ x.til ∧ (x.who = p ∨ x.who = p.revv) := by
  have h0 : kfind xs p now = k := by simpa [known, hv] using h
  unfold kfind at h0
  cases hf : xs.findIdx? (kmatch p now) with
  | none => rw [hf] at h0; simp at h0
  | some j =>
    rw [hf] at h0
    simp at h0
    obtain rfl : j = k := by omega
    obtain ⟨hj, h1, _⟩ := List.findIdx?_eq_some_iff_getElem.1 hf
    refine ⟨xs[j], List.getElem?_eq_getElem hj, ?_⟩
    simp only [kmatch, sameP, Bool.and_eq_true, Bool.or_eq_true, decide_eq_true_eq] at h1
    exact ⟨h1.2, h1.1⟩
theorem CodeAt.below {w w' : World} {v : Value} {bs : List Int} (h : CodeAt w v bs) (hb : Below w.heap.size w w') : CodeAt w' v bs := ⟨h.1.below hb, h.2⟩
theorem implKF_b {xs : List Fl} {v : Value} {p1 p2 p3 p4 now n : Int} {w : World} (hs : Fls w v xs) (ht : Tab w) (h : known xs ⟨p1, p2, p3, p4⟩ now = n) :
    Calls Tryd.prog 24 #[v, .agg #[.int .i64 p1, .int .i64 p2, .int .i64 p3, .int .i64 p4], .int .i64 now] w fun e w' => e = .returned (.int .i64 n) ∧ Below w.heap.size w w' := by
  subst h
  exact implKF_any xs v p1 p2 p3 p4 now w hs ht
theorem specKF_b {xs : List Fl} {v : Value} {p1 p2 p3 p4 now n : Int} {w : World} (hs : Fls w v xs) (h : known xs ⟨p1, p2, p3, p4⟩ now = n) :
    Calls Tryd.prog 23 #[v, .agg #[.int .i64 p1, .int .i64 p2, .int .i64 p3, .int .i64 p4], .int .i64 now] w fun e w' => e = .returned (.int .i64 n) ∧ Below w.heap.size w w' := by
  subst h
  exact specKF_any xs v p1 p2 p3 p4 now w hs
def DrawnKF (w : World) (e : Ending) (w' : World) : Prop := ∃ v' ys x t, e = .returned (.tuple #[v', Pk.v x, .int .i64 t]) ∧ OwnFl w.heap.size w' v' ys ∧ ys.length ≤ 23 ∧ -1 ≤ t ∧ t ≤ 1000001 ∧ Below w.heap.size w w'
set_option maxHeartbeats 1000000 in
theorem drawKF_any (bs : List Int) (v : Value) (w : World) (h : CodeAt w v bs) : Calls Tryd.prog 30 #[v] w (DrawnKF w) := by
  have hA0 := Box4.new w 0 0 0 0 24
  go_enter Tryd.func30, Tryd.ntmps30
  go_wp2_with fail
  refine (open_any bs _ _ (h.below ((Below.refl _ _).alloc (Nat.le_refl _) _))).mono ?_
  rintro e w1 ⟨R, bs', rfl, hR, hr1, hb1⟩
  simp at hR hb1
  have hz1 := hb1.size; simp at hz1
  have hA1 := hA0.mv (R := R) (Mv.of_below hb1) (by omega) (by omega)
  have hb1' : Below w.heap.size w w1 := by (repeat' (first | with_reducible exact Below.refl _ _ | with_reducible assumption | with_reducible refine Below.setCell ?_ ?_ _ | with_reducible refine Below.alloc ?_ ?_ _ | with_reducible refine Below.drew ?_ | with_reducible refine belDrewN ?_ _ | with_reducible refine Below.trans ?_ (Below.mono (by assumption) ?_) | omega | (simp; omega) | (simp; done)))
  clear hA0
  go_wp2_with fail
  refine (drawMo_any R bs' 0 _ hr1 (by omega)).mono ?_
  rintro e w2 ⟨v2, ys, ⟨a, b, c, d⟩, t, q, rfl, ho, hl, ht0, ht1, -, -, hm2⟩
  have hz2 := hm2.size
  have hA2 := hA1.mv hm2 (by omega) (by omega)
  have hb2 : Below w.heap.size w w2 := hb1'.trans (hm2.below (by omega) (by omega))
  have hb4 := (((hA2.set a).1.set b).2.1.set c).2.2.1.set d
  obtain ⟨k0, k1, k2, k3, k4, k5⟩ := hb4.2.2.2
  obtain ⟨l0, c0, c1, c2, c3, c4⟩ := hA2
  have HO := Lib.hid (OwnSl.mono (base' := w.heap.size + 1) ho (by omega))
  clear hA1 hb4 ho
  go_wp2_with fail
  refine bodyPost_ret (v := .tuple #[v2, Pk.v ⟨a, b, c, d⟩, .int .i64 t]) (by simp [results, Tryd.results30, go_sem, *]) rfl ⟨v2, ys, ⟨a, b, c, d⟩, t, rfl, ?_, hl, ht0, ht1, by (repeat' (first | with_reducible exact Below.refl _ _ | with_reducible assumption | with_reducible refine Below.setCell ?_ ?_ _ | with_reducible refine Below.alloc ?_ ?_ _ | with_reducible refine Below.drew ?_ | with_reducible refine belDrewN ?_ _ | with_reducible refine Below.trans ?_ (Below.mono (by assumption) ?_) | omega | (simp; omega) | (simp; done)))⟩
  have hmA := (((Mv.set w.heap.size w2.heap.size w2 0 (.int .i64 a)).trans (Mv.set _ _ _ 1 (.int .i64 b))).trans (Mv.set _ _ _ 2 (.int .i64 c))).trans (Mv.set _ _ _ 3 (.int .i64 d))
  exact OwnSl.mono (OwnSl.from HO.out (fun g h1 h2 => hmA.block g h2 (by omega))) (by omega)
end Go.Proofs.YtlppchkilinpfaaDoor
