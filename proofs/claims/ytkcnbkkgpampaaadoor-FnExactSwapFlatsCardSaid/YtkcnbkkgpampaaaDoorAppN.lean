/- A copy: append to nil; and an append as a step of a region that draws its order. -/
import Derived.Test.YtkcnbkkgpampaaaDoorAppC
namespace Go.Proofs.YtkcnbkkgpampaaaDoor
open Go.RowKit
theorem run_append_copy_nil {α : Type} {sz : Nat} {enc : α → List Value} (hsz : 0 < sz) (henc : ∀ x, (enc x).length = sz) {P : Program} {w : World} (t ty e : TypeId) (i : TypeInfo) (z : Value) (bytes : Nat) (ht : P.underlying t = some (.slice e)) (hi : P.info? e = some i) (hz : i.zero = some z)
    (hsize : i.size = sz) (hby : i.bytes = bytes) (hzs : z.cells.size = sz)
    {v : Value} {xs : List α} (hone : ∀ u ∈ xs.flatMap enc, u.oneCell' = true) (hs : SlAt sz enc w v xs) (hbytes : xs.length * bytes ≤ 140737488355328) :
    ∃ v' w', (Builtin.append_ #[t, t] ty #[.slice none 0 0, v]).run P w = .ok v' w' ∧ OwnSl w.heap.size e sz enc w' v' xs ∧ Below w.heap.size w w' := by
  obtain ⟨a, cap, rfl, h1, h2, hx⟩ := id hs
  by_cases hn : xs = []
  · subst hn
    refine ⟨.slice none 0 0, w, ?_, OwnSl.nil _ _ _ _ _, Below.refl _ _⟩
    have hz0 : ∀ w, (Builtin.firstCells i.size 0 (.slice a 0 cap)).run P w = .ok #[] w := fun w => by
      cases a <;> simp [Builtin.firstCells, loadCells, loadCellsFrom]
    simp [Builtin.append_, run_underlying ht, sizeOf, typeInfo, hi, Builtin.lenOf, hz0, storeCells, Result.andThen]
  · have hlen : 0 < xs.length := List.length_pos_iff.2 hn
    obtain ⟨b, o, ha, _, _⟩ := hx 0 xs[0] (List.getElem?_eq_getElem hlen)
    subst ha
    obtain ⟨g5, cap5, w5, hrun, hown5, hgr5, _, _⟩ := run_append_lies (P := P) (w := w) t ty w.heap.size e i z sz bytes ht hi hz hsize hby hzs hsz (.slice none 0 0) 0 [] (OwnSl.nil _ _ sz enc w) ⟨b, o, none⟩ xs.length cap (xs.flatMap enc) (length_flatMap henc xs) (hs.flat hsz henc) hone hlen (by unfold maxLen at *; omega) (by rw [Nat.zero_add]; exact hbytes) (Nat.le_refl _) w.heap.size rfl
    rw [Nat.zero_add] at hrun hown5
    refine ⟨_, w5, hrun, ?_, (Below.refl _ _).grown hgr5 (Nat.le_refl _) (fun k hk => by cases hk)⟩
    unfold OwnSl
    simpa using hown5
theorem step_append_run {P : Program} {ops : Array Oper} {o : Oper} {a : Act} {w : World} {K : Act → World → Prop} {Q : Exit → Act → World → Prop} {E : Prop} (hgd : o.guard = none) (s x : Operand) (t : TypeId)
    (ho : o.op = .call { callee := .builtin .append, args := #[s, x], argTypes := #[t, t] }) {vs vx : Value} (hs : a.eval s = vs) (hx : a.eval x = vx) {v' : Value} {w' : World}
    (hr : (Builtin.append_ #[t, t] o.type #[vs, vx]).run P w = .ok v' w') (hk : K (a.put o.dst v') w') :
    if Region.wanted o (yielded ops a.tmps) = true then Oper.wp P o a w K Q else E := by
  have hw : Region.wanted o (yielded ops a.tmps) = true := by simp [Region.wanted, hgd]
  rw [if_pos hw]
  exact wp_append_run s x t ho hs hx hr hk
end Go.Proofs.YtkcnbkkgpampaaaDoor
