/- Whether two rules can be exchanged: the program's walk. -/
import Derived.Test.YtojafgooobpoiaaDoorCuW
namespace Go.Proofs.YtojafgooobpoiaaDoor
open Go.RowKit
set_option maxHeartbeats 1000000 in
theorem tied_b {lo lo' : Nat} {f g : Ft} {v0 v1 v2 v3 u0 u1 u2 u3 : Value} {w : World} {r : Bool} (hs : All2 (Sps lo w) [v0, v1, v2, v3] f.box) (ht : All2 (Sps lo' w) [u0, u1, u2, u3] g.box) (ha : bvalid f.box = true) (hb : bvalid g.box = true) (h : tiedB f g = r) :
    Calls Tryd.prog 96 #[.agg #[v0, v1, v2, v3, .bool f.acc], .agg #[u0, u1, u2, u3, .bool g.acc]] w fun e w' => e = .returned (.bool r) ∧ Below w.heap.size w w' := by
  have HS := Lib.hid hs
  have HT := Lib.hid ht
  obtain ⟨p, hp⟩ : ∃ p, f.acc = p := ⟨_, rfl⟩
  obtain ⟨q, hq⟩ : ∃ q, g.acc = q := ⟨_, rfl⟩
  unfold tiedB at h
  rw [hp, hq] at h ⊢
  clear hs ht hp hq
  by_cases e : p = q
  · subst e
    have HR := Lib.hid (show false = r by rw [← h]; simp)
    clear h
    go_enter Tryd.func96, Tryd.ntmps96
    go_wp2
    go_ret
    exact ⟨ret_bool HR.out, by (repeat' (first | with_reducible exact Below.refl _ _ | with_reducible assumption | with_reducible refine Below.setCell ?_ ?_ _ | with_reducible refine Below.alloc ?_ ?_ _ | with_reducible refine Below.drew ?_ | with_reducible refine belDrewN ?_ _ | with_reducible refine Below.trans ?_ (Below.mono (by assumption) ?_) | omega | (simp; omega) | (simp; done)))⟩
  · have HH := Lib.hid (show (!bempty (bmeet f.box g.box)) = r by rw [← h]; simp [e])
    have hpq : (p == q) = false := by cases p <;> cases q <;> simp_all
    clear h
    go_enter Tryd.func96, Tryd.ntmps96
    go_wp2_with fail
    refine (touches_b (HS.out.mono (fun _ _ h => h.below (by (repeat' (first | with_reducible exact Below.refl _ _ | with_reducible assumption | with_reducible refine Below.setCell ?_ ?_ _ | with_reducible refine Below.alloc ?_ ?_ _ | with_reducible refine Below.drew ?_ | with_reducible refine belDrewN ?_ _ | with_reducible refine Below.trans ?_ (Below.mono (by assumption) ?_) | omega | (simp; omega) | (simp; done)))))) (HT.out.mono (fun _ _ h => h.below (by (repeat' (first | with_reducible exact Below.refl _ _ | with_reducible assumption | with_reducible refine Below.setCell ?_ ?_ _ | with_reducible refine Below.alloc ?_ ?_ _ | with_reducible refine Below.drew ?_ | with_reducible refine belDrewN ?_ _ | with_reducible refine Below.trans ?_ (Below.mono (by assumption) ?_) | omega | (simp; omega) | (simp; done)))))) ha hb HH.out).mono ?_
    rintro e w1 ⟨rfl, hb1⟩
    have hw1 : Below w.heap.size w w1 := by (repeat' (first | with_reducible exact Below.refl _ _ | with_reducible assumption | with_reducible refine Below.setCell ?_ ?_ _ | with_reducible refine Below.alloc ?_ ?_ _ | with_reducible refine Below.drew ?_ | with_reducible refine belDrewN ?_ _ | with_reducible refine Below.trans ?_ (Below.mono (by assumption) ?_) | omega | (simp; omega) | (simp; done)))
    clear hb1
    go_wp2
    go_ret
    exact ⟨rfl, hw1⟩
/-- Whether there are rules n and n + 1, not tied. -/
def swp (fs : List Ft) (n : Int) : Bool := inB n 0 ((fs.length : Int) - 2) && !tiedAt fs n.toNat (n.toNat + 1)
theorem cansw_swp (fs : List Ft) (n : Int) : cansw fs n = (fvalid fs && swp fs n) := by
  unfold cansw swp
  rw [Bool.and_assoc]
end Go.Proofs.YtojafgooobpoiaaDoor
