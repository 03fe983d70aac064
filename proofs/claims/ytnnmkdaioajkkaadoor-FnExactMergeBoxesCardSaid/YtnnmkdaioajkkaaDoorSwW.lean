/- Sweeping along two sets: the program's walks. -/
import Derived.Test.YtnnmkdaioajkkaaDoorCuP
import Derived.Test.YtnnmkdaioajkkaaDoorSlC
namespace Go.Proofs.YtnnmkdaioajkkaaDoor
open Go.RowKit
theorem str_drop (a : List Sp) (i : Nat) (c t : Int) : str (a.drop i) 0 c t = str a i c t := by
  unfold str
  rw [List.getElem?_drop, Nat.add_zero]
set_option maxHeartbeats 1000000 in
theorem stretch_any {lo : Nat} (xs : List Sp) (v : Value) (c t : Int) (w : World) (hs : Sps lo w v xs) (hg : ∀ x, xs[0]? = some x → -1000000 ≤ x.lo ∧ x.lo ≤ 1000000) :
    Calls Tryd.prog 170 #[v, .int .i64 c, .int .i64 t] w fun e w' => e = .returned (.tuple #[.bool (str xs 0 c t).1, .int .i64 (str xs 0 c t).2]) ∧ Below w.heap.size w w' := by
  obtain ⟨a, cap, rfl, hlc, hcm⟩ := hs.form
  unfold maxLen at hcm
  cases xs with
  | nil =>
    go_enter Tryd.func170, Tryd.ntmps170
    go_wp2
    go_ret2
    exact ⟨rfl, by (repeat' (first | with_reducible exact Below.refl _ _ | with_reducible assumption | with_reducible refine Below.setCell ?_ ?_ _ | with_reducible refine Below.alloc ?_ ?_ _ | with_reducible refine Below.drew ?_ | with_reducible refine belDrewN ?_ _ | with_reducible refine Below.trans ?_ (Below.mono (by assumption) ?_) | omega | (simp; omega) | (simp; done)))⟩
  | cons x xs =>
    obtain ⟨b, o, f1, f2, rfl, hbl, hx1, c0, c1⟩ := hs.at (show 0 < (x :: xs).length by simp)
    simp at hx1
    have h1 := (hg x rfl).1
    have h2 := (hg x rfl).2
    clear hg
    subst hx1
    simp only [Nat.zero_mul, Nat.add_zero] at c0 c1
    have hne : (((xs.length + 1 : Nat) : Int) == 0) = false := by simp; omega
    have hpos : (0 : Int) < ((xs.length + 1 : Nat) : Int) := by omega
    have hst : str (⟨f1, f2⟩ :: xs) 0 c t = if c < f1 then (false, f1 - 1) else (true, f2) := rfl
    rw [hst]
    simp only [List.length_cons] at hlc hs ⊢
    generalize xs.length + 1 = n at *
    clear hs hst
    by_cases hlt : c < f1
    · rw [if_pos hlt]
      go_enter Tryd.func170, Tryd.ntmps170
      go_wp2_with fail
      refine wp_region_over (by kernel_rfl) (by kernel_rfl) (fun ov => ?_); have ov0 := fun x => ov x (b) (by (try simp) <;> omega); clear ov; (iterate 9 (iterate 8 (try go_big_quiet_step (first | fail)))); refine wpQuiet_nil ?_; intro w8 hw9; have hb_w8 := below_over hw9; clear hw9 ov0
      go_wp2
      go_ret2
      exact ⟨rfl, hb_w8⟩
    · rw [if_neg hlt]
      go_enter Tryd.func170, Tryd.ntmps170
      go_wp2_with fail
      refine wp_region_over (by kernel_rfl) (by kernel_rfl) (fun ov => ?_); have ov0 := fun x => ov x (b) (by (try simp) <;> omega); clear ov; (iterate 9 (iterate 8 (try go_big_quiet_step (first | fail)))); refine wpQuiet_nil ?_; intro w8 hw9; have hb_w8 := below_over hw9; clear hw9 ov0
      go_wp2
      go_ret2
      exact ⟨rfl, hb_w8⟩
theorem stretch_b {lo : Nat} {xs : List Sp} {v : Value} {c t e : Int} {r : Bool} {w : World} (hs : Sps lo w v xs) (hg : ∀ x, xs[0]? = some x → -1000000 ≤ x.lo ∧ x.lo ≤ 1000000) (h : str xs 0 c t = (r, e)) :
    Calls Tryd.prog 170 #[v, .int .i64 c, .int .i64 t] w fun e' w' => e' = .returned (.tuple #[.bool r, .int .i64 e]) ∧ Below w.heap.size w w' := by
  have := stretch_any xs v c t w hs hg
  rwa [h] at this
theorem Sps.dropS {lo : Nat} {w : World} {a : Option Addr} {n cap : Nat} {xs : List Sp} (h : Sps lo w (.slice a n cap) xs) {k : Nat} (hk : k ≤ n) : Sps 0 w (.slice (dropA a cap k 2) (n - k) (cap - k)) (xs.drop k) :=
  SlFr.of (SlAt.drop (SlFr.at h) hk)
theorem wpList_slice_from {P : Program} {ops : Array Oper} {rest : List Oper} {o : Oper} {ac : Act} {w : World} {Q : Exit → Act → World → Prop} {t e : TypeId} {x y : Operand} (ho : o.op = .slice t x (some y) none none) (hgd : o.guard = none) {i : TypeInfo} {sz : Nat} (ht : P.underlying t = some (.slice e)) (hi : P.info? e = some i) (hsz : i.size = sz)
    {a : Option Addr} {n cap k : Nat} (hx : ac.eval x = .slice a n cap) (hy : ac.eval y = .int .i64 k) (hk : k ≤ n) (h : wpList P ops Q rest (ac.put o.dst (.slice (dropA a cap k sz) (n - k) (cap - k))) w) : wpList P ops Q (o :: rest) ac w :=
  wpList_plain hgd fun _ hK => wp_slice_from ho ht hi hsz hx hy hk (hK _ _ h)
theorem inBoth_any (p q : Bool) (w : World) : Calls Tryd.prog 173 #[.bool p, .bool q] w fun e w' => e = .returned (.bool (kMeet p q)) ∧ w = w' := by
  cases p <;> cases q <;> (go_enter Tryd.func173, Tryd.ntmps173; go_wp2; go_ret; exact ⟨rfl, rfl⟩)
theorem inFirstOnly_any (p q : Bool) (w : World) : Calls Tryd.prog 152 #[.bool p, .bool q] w fun e w' => e = .returned (.bool (kLess p q)) ∧ w = w' := by
  cases p <;> cases q <;> (go_enter Tryd.func152, Tryd.ntmps152; go_wp2; go_ret; exact ⟨rfl, rfl⟩)
theorem inEither_any (p q : Bool) (w : World) : Calls Tryd.prog 160 #[.bool p, .bool q] w fun e w' => e = .returned (.bool (kUni p q)) ∧ w = w' := by
  cases p <;> cases q <;> (go_enter Tryd.func160, Tryd.ntmps160; go_wp2; go_ret; exact ⟨rfl, rfl⟩)
theorem inBoth_b {p q r : Bool} (w : World) (h : kMeet p q = r) : Calls Tryd.prog 173 #[.bool p, .bool q] w fun e w' => e = .returned (.bool r) ∧ w = w' := by subst h; exact inBoth_any p q w
theorem inFirstOnly_b {p q r : Bool} (w : World) (h : kLess p q = r) : Calls Tryd.prog 152 #[.bool p, .bool q] w fun e w' => e = .returned (.bool r) ∧ w = w' := by subst h; exact inFirstOnly_any p q w
theorem inEither_b {p q r : Bool} (w : World) (h : kUni p q = r) : Calls Tryd.prog 160 #[.bool p, .bool q] w fun e w' => e = .returned (.bool r) ∧ w = w' := by subst h; exact inEither_any p q w
end Go.Proofs.YtnnmkdaioajkkaaDoor
