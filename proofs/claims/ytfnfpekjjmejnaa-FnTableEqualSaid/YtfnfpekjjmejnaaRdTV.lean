/- The laws FnTableValid and FnTableShrink: drawn tables; the beginning of a valid table, and one with its first entry twice. -/
import Derived.Test.YtfnfpekjjmejnaaRdTb
import Derived.Test.YtfnfpekjjmejnaaAlive
namespace Go.Proofs.Ytfnfpekjjmejnaa
open Go.RowKit
def DrewTb (w : World) (e : Ending) (w' : World) : Prop := ∃ v' ys, e = .returned v' ∧ OwnEn w.heap.size w' v' ys ∧ ys.length ≤ 32 ∧ Below w.heap.size w w'
set_option maxHeartbeats 1000000 in
theorem drawTV_any (bs : List Int) (v : Value) (w : World) (h : CodeAt w v bs) : Calls Try.prog 20 #[v] w (DrewTb w) := by
  go_enter Try.func20, Try.ntmps20
  go_wp2_with fail
  refine (open_any bs _ _ h).mono ?_
  rintro e w1 ⟨R, bs', rfl, hR, hr1, hb1⟩
  have hz1 := hb1.size
  go_wp2_with fail
  refine (drawTb_any R bs' 0 2 _ hr1 (by omega) (by omega) (by omega)).mono ?_
  rintro e w2 ⟨v2, ys, q, rfl, ho, hl, -, -, hm2⟩
  have hb2 : Below w.heap.size w w2 := hb1.trans (hm2.below (by omega) (by omega))
  go_wp2_with fail
  go_ret
  exact ⟨v2, ys, rfl, OwnSl.mono ho (by omega), hl, hb2⟩
set_option maxHeartbeats 1000000 in
theorem drawTS_any (bs : List Int) (v : Value) (w : World) (h : CodeAt w v bs) : Calls Try.prog 35 #[v] w (DrewTb w) := by
  go_enter Try.func35, Try.ntmps35
  go_wp2_with fail
  refine (open_any bs _ _ h).mono ?_
  rintro e w1 ⟨R, bs', rfl, hR, hr1, hb1⟩
  have hz1 := hb1.size
  go_wp2_with fail
  refine (drawTb_any R bs' 0 9 _ hr1 (by omega) (by omega) (by omega)).mono ?_
  rintro e w2 ⟨v2, ys, q, rfl, ho, hl, -, -, hm2⟩
  have hb2 : Below w.heap.size w w2 := hb1.trans (hm2.below (by omega) (by omega))
  go_wp2_with fail
  go_ret
  exact ⟨v2, ys, rfl, OwnSl.mono ho (by omega), hl, hb2⟩
theorem pf_lt_irrefl (p : Pf) : p.lt p = false := by
  simp [Pf.lt]
theorem tvalid_take {xs : List En} (h : tvalid xs = true) (k : Nat) : tvalid (xs.take k) = true := by
  obtain ⟨h1, h2⟩ := (tvalid_iff xs).1 h
  refine (tvalid_iff _).2 ⟨by simp; omega, fun i x hi hx => ?_⟩
  simp at hi
  have hik : i < k := by omega
  have hil : i < xs.length := by omega
  rw [List.getElem?_take_of_lt hik] at hx
  obtain ⟨g1, g2⟩ := h2 i x hil hx
  exact ⟨g1, fun j y hj hy => g2 j y hj (by rwa [List.getElem?_take_of_lt (by omega)] at hy)⟩
theorem tvalid_twice {xs : List En} {x : En} (hx : xs[0]? = some x) : tvalid ([x] ++ xs) = false :=
  tvalid_bad (i := 1) (x := x) (by simpa using hx) (Or.inr ⟨0, x, rfl, rfl, pf_lt_irrefl _⟩)
theorem Ens.takeP {w : World} {a : Option Addr} {n cap hh : Nat} {xs : List En} (h : Ens w (.slice a n cap) xs) (hk : hh ≤ n) : Ens w (.slice a hh cap) (xs.take hh) := by
  obtain ⟨a', cap', he, k1, k2, k3⟩ := h
  obtain ⟨rfl, rfl, rfl⟩ := Value.slice.inj he
  refine ⟨_, _, by rw [List.length_take, Nat.min_eq_left (by omega)], by rw [List.length_take]; omega, k2, fun k x hk => k3 k x ?_⟩
  have : k < hh := by have := (List.getElem?_eq_some_iff.1 hk).1; rw [List.length_take] at this; omega
  rwa [List.getElem?_take_of_lt this] at hk
end Go.Proofs.Ytfnfpekjjmejnaa
