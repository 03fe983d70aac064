/- Meetings and differences of sets: the program's. -/
import Derived.Test.YtnnmkdaioajkkaaDoorSwV
import Derived.Test.YtnnmkdaioajkkaaDoorSwL
namespace Go.Proofs.YtnnmkdaioajkkaaDoor
open Go.RowKit
/-- A set if it is not too long. -/
def slim (xs : List Sp) : List Sp := if xs.length ≤ 40 then xs else []
set_option maxHeartbeats 1000000 in
theorem limit_any {base : Nat} (xs : List Sp) (v : Value) (w : World) (hs : OwnSp base w v xs) :
    Calls Tryd.prog 159 #[v] w fun e w' => (∃ z, e = .returned (.tuple #[z, .bool (decide (xs.length ≤ 40))]) ∧ OwnSp base w z (slim xs)) ∧ w = w' := by
  obtain ⟨a, cap, rfl, hlc, hcm⟩ := hs.sps.form
  unfold maxLen at hcm
  unfold slim
  by_cases h : xs.length ≤ 40
  · rw [if_pos h, decide_eq_true h]
    have HS := Lib.hid hs
    clear hs
    generalize xs.length = n at *
    have h2 : ¬ (40 : Int) < (n : Int) := by omega
    go_enter Tryd.func159, Tryd.ntmps159
    go_wp2
    go_ret2
    exact ⟨⟨_, rfl, HS.out⟩, rfl⟩
  · rw [if_neg h, decide_eq_false h]
    have h2 : (40 : Int) < (xs.length : Int) := by omega
    clear hs
    generalize xs.length = n at *
    go_enter Tryd.func159, Tryd.ntmps159
    go_wp2
    go_ret2
    exact ⟨⟨_, rfl, World.ownsRow_nil _ _ _ _⟩, rfl⟩
/-- A set and whether it is short enough, in memory of the call's own. -/
def RetLim (ys : List Sp) (w : World) (e : Ending) (w' : World) : Prop := ∃ z r, e = .returned (.tuple #[z, .bool r]) ∧ r = decide (ys.length ≤ 40) ∧ OwnSp w.heap.size w' z (slim ys) ∧ Below w.heap.size w w'
set_option maxHeartbeats 1000000 in
theorem meetSpans_any {lo lo' : Nat} (xs ys : List Sp) (u v : Value) (t : Int) (w : World) (hs : Sps lo w u xs) (ht : Sps lo' w v ys) (gx : sgood t 0 xs = true) (gy : sgood t 0 ys = true) (t0 : 0 ≤ t) (t1 : t ≤ 65535) :
    Calls Tryd.prog 163 #[u, v, .int .i64 t] w (RetLim (smeet xs ys) w) := by
  go_enter Tryd.func163, Tryd.ntmps163
  go_wp2_with fail
  refine (sweepMeet_any xs ys u v t w hs ht gx gy t0 t1).mono ?_
  rintro e w1 ⟨z, rfl, zs, hsw, ho, hb⟩
  obtain rfl := hsw.meet gx gy
  go_wp2_with fail
  refine (limit_any _ _ _ ho).mono ?_
  rintro e _ ⟨⟨z2, rfl, ho2⟩, rfl⟩
  obtain ⟨r, hr⟩ : ∃ r, decide ((smeet xs ys).length ≤ 40) = r := ⟨_, rfl⟩
  rw [hr]
  have HO := Lib.hid ho2
  have HR := Lib.hid hr
  clear ho ho2 hr hsw
  go_wp2_with fail
  go_ret2
  exact ⟨_, _, rfl, HR.out.symm, HO.out, hb⟩
set_option maxHeartbeats 1000000 in
theorem lessSpans_any {lo lo' : Nat} (xs ys : List Sp) (u v : Value) (t : Int) (w : World) (hs : Sps lo w u xs) (ht : Sps lo' w v ys) (gx : sgood t 0 xs = true) (gy : sgood t 0 ys = true) (t0 : 0 ≤ t) (t1 : t ≤ 65535) :
    Calls Tryd.prog 178 #[u, v, .int .i64 t] w (RetLim (smeet xs (sother t 0 ys)) w) := by
  go_enter Tryd.func178, Tryd.ntmps178
  go_wp2_with fail
  refine (sweepLess_any xs ys u v t w hs ht gx gy t0 t1).mono ?_
  rintro e w1 ⟨z, rfl, zs, hsw, ho, hb⟩
  obtain rfl := hsw.less gx gy
  go_wp2_with fail
  refine (limit_any _ _ _ ho).mono ?_
  rintro e _ ⟨⟨z2, rfl, ho2⟩, rfl⟩
  obtain ⟨r, hr⟩ : ∃ r, decide ((smeet xs (sother t 0 ys)).length ≤ 40) = r := ⟨_, rfl⟩
  rw [hr]
  have HO := Lib.hid ho2
  have HR := Lib.hid hr
  clear ho ho2 hr hsw
  go_wp2_with fail
  go_ret2
  exact ⟨_, _, rfl, HR.out.symm, HO.out, hb⟩
theorem meetSpans_r {lo lo' : Nat} {xs ys L : List Sp} {u v : Value} {t : Int} {w : World} {r : Bool} (hL : smeet xs ys = L) (hr : decide (L.length ≤ 40) = r) (hs : Sps lo w u xs) (ht : Sps lo' w v ys) (gx : sgood t 0 xs = true) (gy : sgood t 0 ys = true) (t0 : 0 ≤ t) (t1 : t ≤ 65535) :
    Calls Tryd.prog 163 #[u, v, .int .i64 t] w fun e w' => ∃ z, e = .returned (.tuple #[z, .bool r]) ∧ OwnSp w.heap.size w' z (slim L) ∧ Below w.heap.size w w' := by
  subst hL
  refine (meetSpans_any xs ys u v t w hs ht gx gy t0 t1).mono ?_
  rintro e w' ⟨z, r', rfl, rfl, ho, hb⟩
  subst hr
  exact ⟨z, rfl, ho, hb⟩
theorem lessSpans_r {lo lo' : Nat} {xs ys L : List Sp} {u v : Value} {t : Int} {w : World} {r : Bool} (hL : smeet xs (sother t 0 ys) = L) (hr : decide (L.length ≤ 40) = r) (hs : Sps lo w u xs) (ht : Sps lo' w v ys) (gx : sgood t 0 xs = true) (gy : sgood t 0 ys = true) (t0 : 0 ≤ t) (t1 : t ≤ 65535) :
    Calls Tryd.prog 178 #[u, v, .int .i64 t] w fun e w' => ∃ z, e = .returned (.tuple #[z, .bool r]) ∧ OwnSp w.heap.size w' z (slim L) ∧ Below w.heap.size w w' := by
  subst hL
  refine (lessSpans_any xs ys u v t w hs ht gx gy t0 t1).mono ?_
  rintro e w' ⟨z, r', rfl, rfl, ho, hb⟩
  subst hr
  exact ⟨z, rfl, ho, hb⟩
end Go.Proofs.YtnnmkdaioajkkaaDoor
