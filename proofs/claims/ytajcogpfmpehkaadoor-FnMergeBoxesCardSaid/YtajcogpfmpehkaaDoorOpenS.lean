/- How an argument that is a slice is opened: whatever its elements. -/
import Derived.Test.YtajcogpfmpehkaaDoorOpen
namespace Go.Proofs.YtajcogpfmpehkaaDoor
open Go.ChangeShapes Go.WideShapes Go.ChangeAt Go.RowKit Go.Joins Go.Deep
set_option maxRecDepth 100000 in
/-- A slice that comes in: what its elements read as. -/
theorem open_sl {α : Type} {sz : Nat} {enc : α → List Value} (hsz : 0 < sz) (henc : ∀ x, (enc x).length = sz) {H : Type} {en : TypeId × Value → H} {W : World} {b0 : Nat} {r : Reach} {t e : TypeId} {v : Value} {d : DataW H} {p : List MemPlace}
    (ht : Tryd.prog.underlying t = some (.slice e)) (hc : Tryd.prog.cellsOf e = sz)
    (hel : ∀ (n : Nat) (cs : List Value) (x : DataW H × List MemPlace), DataW.trod en Tryd.prog W 0 (fun _ => true) true n e cs = some x → ∃ y, cs = enc y)
    (hv : Value.okWide Tryd.prog W r b0 t v) (h : DataW.Trod en Tryd.prog W 0 (fun _ => true) true t v d p) : ∃ xs : List α, SlAt sz enc W v xs := by
  obtain ⟨a, len, cap, rfl⟩ := okWide_slice ht hv
  obtain ⟨fuel, hf⟩ := h
  rcases open_slice ht hf with ⟨hcs, _⟩ | ⟨a', len', cap', m, n, D, Pl, hcs, _, hlc, hcm, hm, _, hcell⟩
  · simp [Value.cells] at hcs
    obtain ⟨rfl, rfl, rfl⟩ := hcs
    exact ⟨[], SlAt.nil _ _ _⟩
  · simp only [Value.cells, List.cons.injEq, Value.slice.injEq, and_true, List.toList_toArray] at hcs
    obtain ⟨rfl, rfl, rfl⟩ := hcs
    simp only [if_true] at hm
    subst hm
    have hspot : 0 < len → a'.spot = none := by
      intro h0
      obtain ⟨cs, h1, h2⟩ := hcell 0 (by omega)
      obtain ⟨y, rfl⟩ := hel _ _ _ h2
      rw [hc] at h1
      obtain ⟨_, hl, hg⟩ := World.cells?_some h1
      have h3 := hg 0 hsz
      rw [List.getElem?_eq_getElem (by rw [henc]; exact hsz)] at h3
      simp only [Nat.zero_mul, Addr.add, if_true] at h3
      cases hs : a'.spot with
      | none => rfl
      | some s =>
        exfalso
        unfold World.cell? at h3
        rw [hs] at h3
        split at h3 <;> simp at h3
    have each : ∀ i, i < len → ∃ y : α, a'.spot = none ∧ a'.block < W.heap.size ∧ CellsAt W a'.block (a'.off + i * sz) (enc y) := by
      intro i hi
      have hsp := hspot (by omega)
      obtain ⟨cs, h1, h2⟩ := hcell i (by omega)
      obtain ⟨y, rfl⟩ := hel _ _ _ h2
      rw [hc] at h1
      obtain ⟨_, hl, hg⟩ := World.cells?_some h1
      obtain ⟨ab, ao, ap⟩ := a'
      simp only at hsp
      subst hsp
      have c0 : ∀ j c, (enc y)[j]? = some c → W.cell? ⟨ab, ao + i * sz + j, none⟩ = some c := by
        intro j c hj
        have hjs : j < sz := by have := (List.getElem?_eq_some_iff.1 hj).1; rwa [henc] at this
        have := hg j hjs
        rw [hj, Addr.add_lit, Addr.add_lit] at this
        exact this
      obtain ⟨c, hc0⟩ : ∃ c, (enc y)[0]? = some c := ⟨_, List.getElem?_eq_getElem (by rw [henc]; exact hsz)⟩
      have hlt := World.block_lt_of_cell? W ⟨ab, ao + i * sz + 0, none⟩ (c0 0 c hc0)
      exact ⟨y, rfl, hlt, c0⟩
    have hlist : ∃ xs : List α, xs.length = len ∧ ∀ k x, xs[k]? = some x → a'.spot = none ∧ a'.block < W.heap.size ∧ CellsAt W a'.block (a'.off + k * sz) (enc x) := by
      have : ∀ m, m ≤ len → ∃ xs : List α, xs.length = m ∧ ∀ k x, xs[k]? = some x → a'.spot = none ∧ a'.block < W.heap.size ∧ CellsAt W a'.block (a'.off + k * sz) (enc x) := by
        intro m
        induction m with
        | zero => intro _; exact ⟨[], rfl, fun k x h => by simp at h⟩
        | succ m ih =>
          intro hm
          obtain ⟨xs, hl, hx⟩ := ih (by omega)
          obtain ⟨y, hy⟩ := each m (by omega)
          refine ⟨xs ++ [y], by simp [hl], fun k x hk => ?_⟩
          by_cases hkm : k < xs.length
          · rw [List.getElem?_append_left hkm] at hk
            exact hx k x hk
          · rw [List.getElem?_append_right (by omega)] at hk
            have hk0 : k = xs.length := by
              have := (List.getElem?_eq_some_iff.1 hk).1
              simp at this; omega
            subst hk0
            simp at hk
            subst hk
            rw [hl]
            exact hy
      exact this len (Nat.le_refl _)
    obtain ⟨xs, hl, hx⟩ := hlist
    refine ⟨xs, some a', _, by rw [hl], by omega, hcm, fun k x hk => ?_⟩
    obtain ⟨h1, h2, h3⟩ := hx k x hk
    obtain ⟨ab, ao, ap⟩ := a'
    simp only at h1
    subst h1
    exact ⟨ab, ao, rfl, h2, h3⟩

end Go.Proofs.YtajcogpfmpehkaaDoor
