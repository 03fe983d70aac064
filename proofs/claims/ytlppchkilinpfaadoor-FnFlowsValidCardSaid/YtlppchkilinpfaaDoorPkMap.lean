/- A map from packets to numbers that the call itself makes. -/
import Derived.Test.YtlppchkilinpfaaDoorPkEq
import Derived.WideKeyRuns
import Derived.Maps.Own
import Derived.Maps.OwnOps
namespace Go.Proofs.YtlppchkilinpfaaDoor
open Go.RowKit
/-- Block b is a map; L: its entries in order. -/
def MapIs (w : World) (b : Nat) (L : List (Pk × Nat)) : Prop :=
  ∃ es clock, w.heap[b]? = some (.map es clock) ∧ es.toList.map (fun e => (e.key, e.val)) = L.map (fun x => (Pk.v x.1, Value.int .i64 (x.2 : Int)))
def look (L : List (Pk × Nat)) (q : Pk) : Option Nat := (L.find? (fun x => decide (q = x.1))).map (·.2)
theorem MapIs.below {w w' : World} {b : Nat} {L : List (Pk × Nat)} (h : MapIs w b L) (hb : Below w.heap.size w w') : MapIs w' b L := by
  obtain ⟨es, clock, hh, he⟩ := h
  exact ⟨es, clock, (hb.block b (Array.getElem?_eq_some_iff.1 hh).1).trans hh, he⟩
theorem MapIs.lt {w : World} {b : Nat} {L : List (Pk × Nat)} (h : MapIs w b L) : b < w.heap.size := by
  obtain ⟨es, clock, hh, he⟩ := h
  exact (Array.getElem?_eq_some_iff.1 hh).1
theorem MapIs.made (w : World) : MapIs (w.alloc (.map #[] 0)) w.heap.size [] := ⟨#[], 0, by exact (MapKept.heap_alloc w _).1, rfl⟩
theorem run_ask (w : World) (q : Pk) : ∀ (es : List MapEntry) (L : List (Pk × Nat)) (i : Nat), es.map (fun e => (e.key, e.val)) = L.map (fun x => (Pk.v x.1, Value.int .i64 (x.2 : Int))) →
    ((Instr.findAsking 24 (Pk.v q) es i).run Tryd.prog w = .ok none w ∧ (L.find? (fun x => decide (q = x.1))) = none) ∨
    ∃ (j n : Nat), (Instr.findAsking 24 (Pk.v q) es i).run Tryd.prog w = .ok (some (i + j, .int .i64 (n : Int))) w ∧ L[j]? = some (q, n) ∧ L.find? (fun x => decide (q = x.1)) = some (q, n) ∧ ∀ m y, m < j → L[m]? = some y → y.1 ≠ q
  | [], L, i, h => by
    cases L with
    | nil => exact Or.inl ⟨by simp [Instr.findAsking], rfl⟩
    | cons x L => simp at h
  | e :: es, L, i, h => by
    cases L with
    | nil => simp at h
    | cons x L =>
      simp only [List.map_cons, List.cons.injEq, Prod.mk.injEq] at h
      obtain ⟨⟨hk, hv⟩, ht⟩ := h
      have he : (Op.equal 24 (Pk.v q) e.key).run Tryd.prog w = .ok (decide (q = x.1)) w := by rw [hk]; exact pk_equal q x.1 w
      by_cases hq : q = x.1
      · refine Or.inr ⟨0, x.2, ?_, by simp [hq], by simp [hq], fun m y hm => by omega⟩
        rw [show decide (q = x.1) = true by simp [hq]] at he
        simp [Instr.findAsking, he, hv]
      · rcases run_ask w q es L (i + 1) ht with ⟨h1, h2⟩ | ⟨j, n, h1, h2, h3, h4⟩
        · exact Or.inl ⟨by simp [Instr.findAsking, he, hq, h1], by simp [hq, h2]⟩
        · refine Or.inr ⟨j + 1, n, by simp [Instr.findAsking, he, hq, h1, Nat.add_assoc, Nat.add_comm 1 j], by simpa using h2, by simp [hq, h3], fun m y hm hy => ?_⟩
          cases m with
          | zero => simp at hy; subst hy; exact fun e => hq e.symm
          | succ m => exact h4 m y (by omega) (by simpa using hy)
theorem run_checkPk (w : World) (em : Bool) (a b c d : Int) : (Instr.checkKey em 10000 24 (.agg #[.int .i64 a, .int .i64 b, .int .i64 c, .int .i64 d])).run Tryd.prog w = .ok () w := by kernel_rfl
theorem run_same (w : World) (a b c d : Int) (o : Value) (h : o = .agg #[.int .i64 a, .int .i64 b, .int .i64 c, .int .i64 d]) : (Instr.keyThatStays o (.agg #[.int .i64 a, .int .i64 b, .int .i64 c, .int .i64 d])).run Tryd.prog w = .ok (.agg #[.int .i64 a, .int .i64 b, .int .i64 c, .int .i64 d]) w := by
  subst h
  simp [Instr.keyThatStays, Instr.sameBits]
theorem zeroInt (w : World) : (zeroValue 3).run Tryd.prog w = .ok (.int .i64 0) w := by kernel_rfl
/-- 'n, ok := m[q]' -/
theorem run_lookPk (w : World) (bm : Nat) (L : List (Pk × Nat)) (h : MapIs w bm L) (a b c d : Int) :
    (Instr.lookup 67 (.map (some bm)) (.agg #[.int .i64 a, .int .i64 b, .int .i64 c, .int .i64 d]) true).run Tryd.prog w =
      .ok (.tuple #[.int .i64 (((look L ⟨a, b, c, d⟩).getD 0 : Nat) : Int), .bool (look L ⟨a, b, c, d⟩).isSome]) w := by
  obtain ⟨es, clock, hh, he⟩ := h
  have hg := MapKept.run_getObj_map (P := Tryd.prog) hh
  have hc := run_checkPk w es.isEmpty a b c d
  have hk := run_findKey_eq (P := Tryd.prog) (w := w) (k := 24) (by kernel_rfl) (.agg #[.int .i64 a, .int .i64 b, .int .i64 c, .int .i64 d]) es.toList
  unfold Instr.lookup look
  rcases run_ask w ⟨a, b, c, d⟩ es.toList L 0 he with ⟨h1, h2⟩ | ⟨j, n, h1, h2, h3, _⟩
  · rw [h1] at hk
    simp [run_underlying Tryd.underlying67, hg, hc, hk, zeroInt w, h2]
  · rw [h1] at hk
    simp [run_underlying Tryd.underlying67, hg, hc, hk, h3]

theorem look_cons_ne {L : List (Pk × Nat)} {q p : Pk} {n : Nat} (h : q ≠ p) : look ((p, n) :: L) q = look L q := by simp [look, h]
theorem look_append {L M : List (Pk × Nat)} {q : Pk} : look (L ++ M) q = (look L q).or (look M q) := by
  unfold look
  rw [List.find?_append]
  cases L.find? (fun x => decide (q = x.1)) <;> simp
/-- 'm[q] = n': the entries behind it. -/
theorem run_putPk (w : World) (bm : Nat) (L : List (Pk × Nat)) (h : MapIs w bm L) (a b c d : Int) (n : Nat) :
    ∃ w' L', (Instr.mapUpdate 67 (.map (some bm)) (.agg #[.int .i64 a, .int .i64 b, .int .i64 c, .int .i64 d]) (.int .i64 (n : Int))).run Tryd.prog w = .ok () w' ∧
      MapIs w' bm L' ∧ w.grownBy w' (some bm) ∧ ∀ q, look L' q = if q = ⟨a, b, c, d⟩ then some n else look L q := by
  obtain ⟨es, clock, hh, he⟩ := h
  have hlt := (Array.getElem?_eq_some_iff.1 hh).1
  have hg := MapKept.run_getObj_map (P := Tryd.prog) hh
  have hc := run_checkPk w false a b c d
  have hk := run_findKey_eq (P := Tryd.prog) (w := w) (k := 24) (by kernel_rfl) (.agg #[.int .i64 a, .int .i64 b, .int .i64 c, .int .i64 d]) es.toList
  unfold Instr.mapUpdate
  rcases run_ask w ⟨a, b, c, d⟩ es.toList L 0 he with ⟨h1, h2⟩ | ⟨j, m, h1, h2, h3, h4⟩
  · rw [h1] at hk
    refine ⟨{ w with heap := w.heap.setIfInBounds bm (.map (es.push { key := .agg #[.int .i64 a, .int .i64 b, .int .i64 c, .int .i64 d], val := .int .i64 (n : Int), born := clock }) (clock + 1)) }, L ++ [(⟨a, b, c, d⟩, n)], by simp [run_underlying Tryd.underlying67, hg, hc, hk, MapKept.run_setObj_map _ hh], ⟨_, _, by simp only [Array.getElem?_setIfInBounds_self]; rw [if_pos hlt], by simp [he]⟩, ⟨rfl, rfl, rfl, by simp, fun k _ hne => ?_⟩, fun q => ?_⟩
    · simp only [Array.getElem?_setIfInBounds]
      rw [if_neg (by intro e; subst e; exact hne rfl)]
    · rw [look_append]
      by_cases hq : q = ⟨a, b, c, d⟩
      · subst hq; simp [look, h2]
      · simp [look, hq]
  · rw [h1] at hk
    have hj : j < es.size := by
      have := congrArg List.length he
      have hl := (List.getElem?_eq_some_iff.1 h2).1
      simp at this; omega
    have hkey : es[j].key = .agg #[.int .i64 a, .int .i64 b, .int .i64 c, .int .i64 d] := by
      have := congrArg (·[j]?) he
      simp [h2, hj] at this
      exact this.1
    have hsm := run_same w a b c d _ hkey
    refine ⟨{ w with heap := w.heap.setIfInBounds bm (.map (es.modify j fun e => { e with key := .agg #[.int .i64 a, .int .i64 b, .int .i64 c, .int .i64 d], val := .int .i64 (n : Int) }) clock) }, L.set j (⟨a, b, c, d⟩, n), by simp [run_underlying Tryd.underlying67, hg, hc, hk, hj, hsm, MapKept.run_setObj_map _ hh], ⟨_, _, by simp only [Array.getElem?_setIfInBounds_self]; rw [if_pos hlt], ?_⟩, ⟨rfl, rfl, rfl, by simp, fun k _ hne => ?_⟩, fun q => ?_⟩
    · apply List.ext_getElem?
      intro k
      have hk' := congrArg (·[k]?) he
      simp only [List.getElem?_map] at hk' ⊢
      simp only [Array.getElem?_toList, Array.getElem?_modify, List.getElem?_set]
      by_cases hjk : j = k
      · subst hjk
        have hl := (List.getElem?_eq_some_iff.1 h2).1
        simp [hj, hl]
      · simpa [hjk] using hk'
    · simp only [Array.getElem?_setIfInBounds]
      rw [if_neg (by intro e; subst e; exact hne rfl)]
    · have hl := (List.getElem?_eq_some_iff.1 h2).1
      have hsplit : L = L.take j ++ (⟨a, b, c, d⟩, m) :: L.drop (j + 1) := by
        have e := (List.getElem?_eq_some_iff.1 h2).2
        rw [← e, ← List.drop_eq_getElem_cons hl, List.take_append_drop]
      have hset : L.set j (⟨a, b, c, d⟩, n) = L.take j ++ (⟨a, b, c, d⟩, n) :: L.drop (j + 1) := by rw [List.set_eq_take_append_cons_drop, if_pos hl]
      have hno : look (L.take j) ⟨a, b, c, d⟩ = none := by
        unfold look
        rw [List.find?_eq_none.2 (fun y hy => ?_)]
        · rfl
        · obtain ⟨k, hk1, rfl⟩ := List.getElem_of_mem hy
          rw [List.length_take] at hk1
          have := h4 k L[k] (by omega) (List.getElem?_eq_getElem _)
          simp
          exact fun e => this e.symm
      rw [hset]
      conv => rhs; rw [hsplit]
      rw [look_append, look_append]
      by_cases hq : q = ⟨a, b, c, d⟩
      · subst hq
        rw [hno]
        simp [look]
      · rw [if_neg hq, look_cons_ne hq, look_cons_ne hq]
/-- 'm[q] = n' at the operation. -/
theorem wpList_putPk {w : World} {ops : Array Oper} {rest : List Oper} {o : Oper} {ac : Act} {Q : Exit → Act → World → Prop}
    (hg : o.guard = none) (m x v : Operand) (hop : o.op = Op.mapUpdate 67 m x v) (bm : Nat) (L : List (Pk × Nat)) (h : MapIs w bm L)
    (a b c d : Int) (n : Nat) (hm : ac.eval m = .map (some bm)) (hx : ac.eval x = .agg #[.int .i64 a, .int .i64 b, .int .i64 c, .int .i64 d]) (hv : ac.eval v = .int .i64 (n : Int))
    (hK : ∀ w' L', MapIs w' bm L' → w.grownBy w' (some bm) → (∀ q, look L' q = if q = ⟨a, b, c, d⟩ then some n else look L q) → wpList Tryd.prog ops Q rest (ac.put o.dst undef) w') :
    wpList Tryd.prog ops Q (o :: rest) ac w := by
  refine wpList_plain hg fun K' hK' => ?_
  obtain ⟨w', L', hrun, r1, r2, r3⟩ := run_putPk w bm L h a b c d n
  unfold Oper.wp
  simp [execOp, hop, hm, hx, hv, hrun, Result.andThen]
  exact hK' _ _ (hK w' L' r1 r2 r3)
end Go.Proofs.YtlppchkilinpfaaDoor
