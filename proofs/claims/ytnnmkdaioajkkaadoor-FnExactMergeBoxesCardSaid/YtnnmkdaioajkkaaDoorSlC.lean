/- Slices cut. -/
import Derived.Test.YtnnmkdaioajkkaaDoorSlA
namespace Go.Proofs.YtnnmkdaioajkkaaDoor
open Go.RowKit
theorem addr_add_zero (a : Addr) : a.add 0 = a := by
  obtain ⟨b, o, p⟩ := a
  cases p <;> simp [Addr.add]
theorem map_add_zero (a : Option Addr) : a.map (fun x => x.add 0) = a := by
  cases a <;> simp [addr_add_zero]
theorem SlAt.take {α : Type} {sz : Nat} {enc : α → List Value} {w : World} {a : Option Addr} {n cap : Nat} {xs : List α} (h : SlAt sz enc w (.slice a n cap) xs) {k : Nat} (hk : k ≤ n) : SlAt sz enc w (.slice a k cap) (xs.take k) := by
  obtain ⟨a', cap', he, h1, h2, hx⟩ := h
  obtain ⟨rfl, rfl, rfl⟩ := Value.slice.inj he
  refine ⟨_, _, by rw [List.length_take, Nat.min_eq_left hk], by rw [List.length_take]; omega, h2, fun j x hj => ?_⟩
  have : j < k := by have := (List.getElem?_eq_some_iff.1 hj).1; rw [List.length_take] at this; omega
  rw [List.getElem?_take_of_lt this] at hj
  exact hx j x hj
/-- Where the slice from place k on begins. -/
def dropA (a : Option Addr) (cap k sz : Nat) : Option Addr := if cap = k then a else a.map (·.add (k * sz))
theorem SlAt.drop {α : Type} {sz : Nat} {enc : α → List Value} {w : World} {a : Option Addr} {n cap : Nat} {xs : List α} (h : SlAt sz enc w (.slice a n cap) xs) {k : Nat} (hk : k ≤ n) : SlAt sz enc w (.slice (dropA a cap k sz) (n - k) (cap - k)) (xs.drop k) := by
  obtain ⟨a', cap', he, h1, h2, hx⟩ := h
  obtain ⟨rfl, rfl, rfl⟩ := Value.slice.inj he
  refine ⟨_, _, by rw [List.length_drop], by rw [List.length_drop]; omega, by omega, fun j x hj => ?_⟩
  rw [List.getElem?_drop] at hj
  have hlt := (List.getElem?_eq_some_iff.1 hj).1
  obtain ⟨b, o, ha, hb, hc⟩ := hx (k + j) x hj
  refine ⟨b, o + k * sz, ?_, hb, ?_⟩
  · unfold dropA
    rw [if_neg (by omega), ha]
    simp [Addr.add_lit]
  · rwa [show o + k * sz + j * sz = o + (k + j) * sz by rw [Nat.add_mul]; omega]
theorem run_slice_to {P : Program} {w : World} {t e : TypeId} {i : TypeInfo} (ht : P.underlying t = some (.slice e)) (hi : P.info? e = some i) (a : Option Addr) (n cap k : Nat) (hk : k ≤ cap) :
    (Instr.slice t (.slice a n cap) none (some (.int .i64 k)) none).run P w = .ok (.slice a k cap) w := by
  simp [Instr.slice, Instr.sliceBounds, Instr.sliceBound, run_underlying ht, sizeOf, typeInfo, hi, asIntOf, Result.andThen, hk, map_add_zero]
theorem run_slice_from {P : Program} {w : World} {t e : TypeId} {i : TypeInfo} (ht : P.underlying t = some (.slice e)) (hi : P.info? e = some i) (a : Option Addr) (n cap k : Nat) (hk : k ≤ n) :
    (Instr.slice t (.slice a n cap) (some (.int .i64 k)) none none).run P w = .ok (.slice (dropA a cap k i.size) (n - k) (cap - k)) w := by
  simp [Instr.slice, Instr.sliceBounds, Instr.sliceBound, run_underlying ht, sizeOf, typeInfo, hi, asIntOf, Result.andThen, hk, dropA]
theorem wp_slice_to {P : Program} {o : Oper} {ac : Act} {w : World} {K : Act → World → Prop} {Q : Exit → Act → World → Prop} {t e : TypeId} {x y : Operand} (ho : o.op = .slice t x none (some y) none) {i : TypeInfo} (ht : P.underlying t = some (.slice e)) (hi : P.info? e = some i)
    {a : Option Addr} {n cap k : Nat} (hx : ac.eval x = .slice a n cap) (hy : ac.eval y = .int .i64 k) (hk : k ≤ cap) (h : K (ac.put o.dst (.slice a k cap)) w) : o.wp P ac w K Q := by
  have hr := run_slice_to (P := P) (w := w) ht hi a n cap k hk
  unfold Oper.wp execOp
  simp only [ho, Instr.sliceAt, hx, hy, Option.map_some, Option.map_none, Sem.run_bind, run_underlying ht, Result.andThen_ok, hr]
  exact h
theorem wp_slice_from {P : Program} {o : Oper} {ac : Act} {w : World} {K : Act → World → Prop} {Q : Exit → Act → World → Prop} {t e : TypeId} {x y : Operand} (ho : o.op = .slice t x (some y) none none) {i : TypeInfo} {sz : Nat} (ht : P.underlying t = some (.slice e)) (hi : P.info? e = some i) (hsz : i.size = sz)
    {a : Option Addr} {n cap k : Nat} (hx : ac.eval x = .slice a n cap) (hy : ac.eval y = .int .i64 k) (hk : k ≤ n) (h : K (ac.put o.dst (.slice (dropA a cap k sz) (n - k) (cap - k))) w) : o.wp P ac w K Q := by
  subst hsz
  have hr := run_slice_from (P := P) (w := w) ht hi a n cap k hk
  unfold Oper.wp execOp
  simp only [ho, Instr.sliceAt, hx, hy, Option.map_some, Option.map_none, Sem.run_bind, run_underlying ht, Result.andThen_ok, hr]
  exact h
end Go.Proofs.YtnnmkdaioajkkaaDoor
