/- A slice's cells in one row. -/
import Derived.Test.YtkcnbkkgpampaaaDoorOwn
namespace Go.Proofs.YtkcnbkkgpampaaaDoor
open Go.RowKit
theorem SlAt.flat {α : Type} {sz : Nat} {enc : α → List Value} (hsz : 0 < sz) (henc : ∀ x, (enc x).length = sz) {w : World} {a : Addr} {n cap : Nat} {xs : List α} (h : SlAt sz enc w (.slice (some a) n cap) xs) :
    ∀ (j : Nat) u, (xs.flatMap enc)[j]? = some u → w.cell? (a.add j) = some u := by
  intro j u hj
  obtain ⟨a', cap', he, _, _, hx⟩ := h
  obtain ⟨rfl, rfl, rfl⟩ := Value.slice.inj he
  have hlt : j < xs.length * sz := by
    have := (List.getElem?_eq_some_iff.1 hj).1
    rwa [length_flatMap henc] at this
  have hk : j / sz < xs.length := Nat.div_lt_of_lt_mul (by rw [Nat.mul_comm]; exact hlt)
  have hr : j % sz < sz := Nat.mod_lt _ hsz
  have hd : j / sz * sz + j % sz = j := by rw [Nat.mul_comm]; exact Nat.div_add_mod j sz
  have hy := List.getElem?_eq_getElem hk
  obtain ⟨b, o, ha, hb, hc⟩ := hx _ _ hy
  rw [← hd, flatMap_at henc xs _ _ _ hy hr] at hj
  have := hc _ _ hj
  cases ha
  rw [Addr.add_lit]
  rwa [show o + j / sz * sz + j % sz = o + j by omega] at this
/-- An append whose run is known. -/
theorem wp_append_run {P : Program} {o : Oper} {a : Act} {w : World} {K : Act → World → Prop} {Q : Exit → Act → World → Prop} (s x : Operand) (t : TypeId)
    (ho : o.op = .call { callee := .builtin .append, args := #[s, x], argTypes := #[t, t] }) {vs vx : Value} (hs : a.eval s = vs) (hx : a.eval x = vx) {v' : Value} {w' : World}
    (hr : (Builtin.append_ #[t, t] o.type #[vs, vx]).run P w = .ok v' w') (hk : K (a.put o.dst v') w') : o.wp P a w K Q := by
  unfold Oper.wp execOp
  simp only [ho, resolve, invoke, builtin, Sem.run_bind, Sem.run_pure, Result.andThen_ok, List.map_toArray, List.map_cons, List.map_nil, hs, hx, hr]
  exact hk
end Go.Proofs.YtkcnbkkgpampaaaDoor
