/- Appending copies. -/
import Derived.Test.YtnnmkdaioajkkaaDoorOwn
import Derived.Test.YtnnmkdaioajkkaaDoorSetAll
import Derived.ArgAppend
import Derived.Deep.AppendLies
namespace Go.Proofs.YtnnmkdaioajkkaaDoor
open Go.RowKit
theorem SlAt.flat {α : Type} {sz : Nat} {enc : α → List Value} (hsz : 0 < sz) (henc : ∀ x, (enc x).length = sz) {w : World} {a : Addr} {n cap : Nat} {xs : List α} (h : SlAt sz enc w (.slice (some a) n cap) xs) :
    ∀ (j : Nat) u, (xs.flatMap enc)[j]? = some u → w.cell? (a.add j) = some u := by
  intro j u hj
  obtain ⟨a', cap', he, _, _, hx⟩ := h
  obtain ⟨rfl, rfl, rfl⟩ := Value.slice.inj he
  have hlt : j < xs.length * sz := by
    have := (List.getElem?_eq_some_iff.1 hj).1
    rwa [length_flatMap henc] at this
  have hk : j / sz < xs.length := Nat.div_lt_of_lt_mul (by rw [Nat.mul_comm]; exact hlt)
  have hr : j % sz < sz := Nat.mod_lt _ hsz
  have hd : j / sz * sz + j % sz = j := by rw [Nat.mul_comm]; exact Nat.div_add_mod j sz
  have hy := List.getElem?_eq_getElem hk
  obtain ⟨b, o, ha, hb, hc⟩ := hx _ _ hy
  rw [← hd, flatMap_at henc xs _ _ _ hy hr] at hj
  have := hc _ _ hj
  cases ha
  rw [Addr.add_lit]
  rwa [show o + j / sz * sz + j % sz = o + j by omega] at this
/-- An append whose run is known. -/
theorem wp_append_run {P : Program} {o : Oper} {a : Act} {w : World} {K : Act → World → Prop} {Q : Exit → Act → World → Prop} (s x : Operand) (t : TypeId)
    (ho : o.op = .call { callee := .builtin .append, args := #[s, x], argTypes := #[t, t] }) {vs vx : Value} (hs : a.eval s = vs) (hx : a.eval x = vx) {v' : Value} {w' : World}
    (hr : (Builtin.append_ #[t, t] o.type #[vs, vx]).run P w = .ok v' w') (hk : K (a.put o.dst v') w') : o.wp P a w K Q := by
  unfold Oper.wp execOp
  simp only [ho, resolve, invoke, builtin, Sem.run_bind, Sem.run_pure, Result.andThen_ok, List.map_toArray, List.map_cons, List.map_nil, hs, hx, hr]
  exact hk
theorem run_append_copy {α : Type} {sz : Nat} {enc : α → List Value} (hsz : 0 < sz) (henc : ∀ x, (enc x).length = sz) {P : Program} {w : World} (t ty e : TypeId) (i : TypeInfo) (z : Value) (bytes : Nat) (ht : P.underlying t = some (.slice e)) (hi : P.info? e = some i) (hz : i.zero = some z)
    (hsize : i.size = sz) (hby : i.bytes = bytes) (hzs : z.cells.size = sz) {base : Nat} (lit : Addr) (hlit : OwnSl base e sz enc w (.slice (some lit) 0 0) ([] : List α)) (hbase : base ≤ w.heap.size)
    {v : Value} {xs : List α} (hs : SlAt sz enc w v xs) (hbytes : xs.length * bytes ≤ 140737488355328) :
    ∃ v' w', (Builtin.append_ #[t, t] ty #[.slice (some lit) 0 0, v]).run P w = .ok v' w' ∧ OwnSl base e sz enc w' v' xs ∧ Below w.heap.size w w' := by
  obtain ⟨a, cap, rfl, h1, h2, hx⟩ := id hs
  by_cases hn : xs = []
  · subst hn
    refine ⟨.slice (some lit) 0 0, w, ?_, hlit, Below.refl _ _⟩
    have hz0 : ∀ w, (Builtin.firstCells i.size 0 (.slice a 0 cap)).run P w = .ok #[] w := fun w => by
      cases a <;> simp [Builtin.firstCells, loadCells, loadCellsFrom]
    simp [Builtin.append_, run_underlying ht, sizeOf, typeInfo, hi, Builtin.lenOf, hz0, storeCells, Result.andThen]
  · have hlen : 0 < xs.length := List.length_pos_iff.2 hn
    obtain ⟨b, o, ha, _, _⟩ := hx 0 xs[0] (List.getElem?_eq_getElem hlen)
    subst ha
    obtain ⟨v', w', hrun, hown, hgr⟩ := run_append_arg_grows (P := P) (w := w) t ty e i z sz bytes ht hi hz hsize hby hzs hsz lit 0 0 [] (by simp) (fun j u h => by simp at h) ⟨b, o, none⟩ xs.length cap (xs.flatMap enc) (length_flatMap henc xs) (hs.flat hsz henc) (by omega) (by unfold maxLen at *; omega) (by rw [Nat.zero_add]; exact hbytes)
    refine ⟨v', w', hrun, ?_, (Below.refl _ _).grown hgr (Nat.le_refl _) (fun k hk => by cases hk)⟩
    refine OwnSl.mono (base := w.heap.size) ?_ hbase
    unfold OwnSl
    simpa using hown
/-- Nothing is appended. -/
theorem run_append_zero {P : Program} {w : World} (t ty e : TypeId) (i : TypeInfo) (ht : P.underlying t = some (.slice e)) (hi : P.info? e = some i) (ad : Addr) (n cap : Nat) (hn : n ≤ cap) (a : Option Addr) (c : Nat) :
    (Builtin.append_ #[t, t] ty #[.slice (some ad) n cap, .slice a 0 c]).run P w = .ok (.slice (some ad) n cap) w := by
  have hz0 : ∀ w, (Builtin.firstCells i.size 0 (.slice a 0 c)).run P w = .ok #[] w := fun w => by
    cases a <;> simp [Builtin.firstCells, loadCells, loadCellsFrom]
  simp [Builtin.append_, run_underlying ht, sizeOf, typeInfo, hi, Builtin.lenOf, hz0, storeCells, Result.andThen, hn]
/-- An append to a slice of the call's own, of whatever slice. -/
theorem own_append_any {α : Type} {sz : Nat} {enc : α → List Value} (hsz : 0 < sz) (henc : ∀ x, (enc x).length = sz) {P : Program} {W w : World} (t ty e : TypeId) (i : TypeInfo) (z : Value) (bytes : Nat) (ht : P.underlying t = some (.slice e)) (hi : P.info? e = some i) (hz : i.zero = some z)
    (hsize : i.size = sz) (hby : i.bytes = bytes) (hzs : z.cells.size = sz) {v vx : Value} {ys zs : List α} (hone : ∀ u ∈ zs.flatMap enc, u.oneCell' = true) (ho : OwnSl W.heap.size e sz enc w v ys) (hpos : 0 < ys.length)
    (hs : SlAt sz enc w vx zs) (hbytes : (ys.length + zs.length) * bytes ≤ 140737488355328) (hmax : ys.length + zs.length ≤ maxLen) (hC : Below W.heap.size W w) :
    ∃ v' w', (Builtin.append_ #[t, t] ty #[v, vx]).run P w = .ok v' w' ∧ OwnSl W.heap.size e sz enc w' v' (ys ++ zs) ∧ Below W.heap.size W w' := by
  obtain ⟨a, cap, rfl, h1, h2, hx⟩ := id hs
  by_cases hn : zs = []
  · subst hn
    rcases ho.form with ⟨_, h⟩ | ⟨g, cp, rfl, _, _, hcp, _, _⟩
    · rw [h] at hpos; simp at hpos
    · refine ⟨_, w, run_append_zero t ty e i ht hi ⟨g, 0, none⟩ _ _ hcp a cap, by simpa using ho, hC⟩
  · have hlen : 0 < zs.length := List.length_pos_iff.2 hn
    obtain ⟨b, o, ha, _, _⟩ := hx 0 zs[0] (List.getElem?_eq_getElem hlen)
    subst ha
    obtain ⟨g5, cap5, w5, hrun, hown5, hgr5, _, _⟩ := run_append_lies (P := P) (w := w) t ty W.heap.size e i z sz bytes ht hi hz hsize hby hzs hsz v ys.length _ ho ⟨b, o, none⟩ zs.length cap (zs.flatMap enc) (length_flatMap henc zs) (hs.flat hsz henc) hone hlen hmax hbytes hC.size w.heap.size rfl
    refine ⟨_, w5, hrun, ?_, belGrown hC ho hgr5 hC.size⟩
    unfold OwnSl
    rw [List.length_append, List.flatMap_append]
    exact hown5
theorem wpList_append_run {P : Program} {ops : Array Oper} {rest : List Oper} {o : Oper} {a : Act} {w : World} {Q : Exit → Act → World → Prop} (hgd : o.guard = none) (s x : Operand) (t : TypeId)
    (ho : o.op = .call { callee := .builtin .append, args := #[s, x], argTypes := #[t, t] }) {vs vx : Value} (hs : a.eval s = vs) (hx : a.eval x = vx) {v' : Value} {w' : World}
    (hr : (Builtin.append_ #[t, t] o.type #[vs, vx]).run P w = .ok v' w') (hk : wpList P ops Q rest (a.put o.dst v') w') : wpList P ops Q (o :: rest) a w :=
  wpList_plain hgd fun _ hK => wp_append_run s x t ho hs hx hr (hK _ _ hk)
end Go.Proofs.YtnnmkdaioajkkaaDoor
