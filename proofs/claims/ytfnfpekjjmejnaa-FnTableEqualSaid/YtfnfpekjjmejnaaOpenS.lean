/- How an argument that is a slice is opened: whatever its elements. -/
import Derived.Test.YtfnfpekjjmejnaaOpen
import Derived.Test.YtfnfpekjjmejnaaTp
namespace Go.Proofs.Ytfnfpekjjmejnaa
open Go.ChangeShapes Go.WideShapes Go.ChangeAt Go.RowKit Go.Joins Go.Deep
/-- A slice that comes in: what its elements read as. -/
theorem open_sl {α : Type} {sz : Nat} {enc : α → List Value} (hsz : 0 < sz) (henc : ∀ x, (enc x).length = sz) {H : Type} {en : TypeId × Value → H} {W : World} {b0 : Nat} {r : Reach} {t e : TypeId} {v : Value} {d : DataW H} {p : List MemPlace}
    (ht : Try.prog.underlying t = some (.slice e)) (hc : Try.prog.cellsOf e = sz)
    (hel : ∀ (n : Nat) (cs : List Value) (x : DataW H × List MemPlace), DataW.trod en Try.prog W 0 (fun _ => true) true n e cs = some x → ∃ y, cs = enc y)
    (hv : Value.okWide Try.prog W r b0 t v) (h : DataW.Trod en Try.prog W 0 (fun _ => true) true t v d p) : ∃ xs : List α, SlAt sz enc W v xs := by
  obtain ⟨a, len, cap, rfl⟩ := okWide_slice ht hv
  obtain ⟨fuel, hf⟩ := h
  rcases open_slice ht hf with ⟨hcs, _⟩ | ⟨a', len', cap', m, n, D, Pl, hcs, _, hlc, hcm, hm, _, hcell⟩
  · simp [Value.cells] at hcs
    obtain ⟨rfl, rfl, rfl⟩ := hcs
    exact ⟨[], SlAt.nil _ _ _⟩
  · simp only [Value.cells, List.cons.injEq, Value.slice.injEq, and_true, List.toList_toArray] at hcs
    obtain ⟨rfl, rfl, rfl⟩ := hcs
    simp only [if_true] at hm
    subst hm
    have hspot : 0 < len → a'.spot = none := by
      intro h0
      obtain ⟨cs, h1, h2⟩ := hcell 0 (by omega)
      obtain ⟨y, rfl⟩ := hel _ _ _ h2
      rw [hc] at h1
      obtain ⟨_, hl, hg⟩ := World.cells?_some h1
      have h3 := hg 0 hsz
      rw [List.getElem?_eq_getElem (by rw [henc]; exact hsz)] at h3
      simp only [Nat.zero_mul, Addr.add, if_true] at h3
      cases hs : a'.spot with
      | none => rfl
      | some s =>
        exfalso
        unfold World.cell? at h3
        rw [hs] at h3
        split at h3 <;> simp at h3
    have each : ∀ i, i < len → ∃ y : α, a'.spot = none ∧ a'.block < W.heap.size ∧ CellsAt W a'.block (a'.off + i * sz) (enc y) := by
      intro i hi
      have hsp := hspot (by omega)
      obtain ⟨cs, h1, h2⟩ := hcell i (by omega)
      obtain ⟨y, rfl⟩ := hel _ _ _ h2
      rw [hc] at h1
      obtain ⟨_, hl, hg⟩ := World.cells?_some h1
      obtain ⟨ab, ao, ap⟩ := a'
      simp only at hsp
      subst hsp
      have c0 : ∀ j c, (enc y)[j]? = some c → W.cell? ⟨ab, ao + i * sz + j, none⟩ = some c := by
        intro j c hj
        have hjs : j < sz := by have := (List.getElem?_eq_some_iff.1 hj).1; rwa [henc] at this
        have := hg j hjs
        rw [hj, Addr.add_lit, Addr.add_lit] at this
        exact this
      obtain ⟨c, hc0⟩ : ∃ c, (enc y)[0]? = some c := ⟨_, List.getElem?_eq_getElem (by rw [henc]; exact hsz)⟩
      have hlt := World.block_lt_of_cell? W ⟨ab, ao + i * sz + 0, none⟩ (c0 0 c hc0)
      exact ⟨y, rfl, hlt, c0⟩
    have hlist : ∃ xs : List α, xs.length = len ∧ ∀ k x, xs[k]? = some x → a'.spot = none ∧ a'.block < W.heap.size ∧ CellsAt W a'.block (a'.off + k * sz) (enc x) := by
      have : ∀ m, m ≤ len → ∃ xs : List α, xs.length = m ∧ ∀ k x, xs[k]? = some x → a'.spot = none ∧ a'.block < W.heap.size ∧ CellsAt W a'.block (a'.off + k * sz) (enc x) := by
        intro m
        induction m with
        | zero => intro _; exact ⟨[], rfl, fun k x h => by simp at h⟩
        | succ m ih =>
          intro hm
          obtain ⟨xs, hl, hx⟩ := ih (by omega)
          obtain ⟨y, hy⟩ := each m (by omega)
          refine ⟨xs ++ [y], by simp [hl], fun k x hk => ?_⟩
          by_cases hkm : k < xs.length
          · rw [List.getElem?_append_left hkm] at hk
            exact hx k x hk
          · rw [List.getElem?_append_right (by omega)] at hk
            have hk0 : k = xs.length := by
              have := (List.getElem?_eq_some_iff.1 hk).1
              simp at this; omega
            subst hk0
            simp at hk
            subst hk
            rw [hl]
            exact hy
      exact this len (Nat.le_refl _)
    obtain ⟨xs, hl, hx⟩ := hlist
    refine ⟨xs, some a', _, by rw [hl], by omega, hcm, fun k x hk => ?_⟩
    obtain ⟨h1, h2, h3⟩ := hx k x hk
    obtain ⟨ab, ao, ap⟩ := a'
    simp only at h1
    subst h1
    exact ⟨ab, ao, rfl, h2, h3⟩

theorem cellsLEntry : Try.prog.cellsOf 55 = 3 := by kernel_rfl
/-- One entry's cells. -/
theorem entry_cells {H : Type} {en : TypeId × Value → H} {W : World} (n : Nat) (cs : List Value) (x : DataW H × List MemPlace) (h : DataW.trod en Try.prog W 0 (fun _ => true) true n 55 cs = some x) : ∃ y : En, cs = En.enc y := by
  obtain ⟨y0, y1, m, _, hl, h0, h1⟩ := trod_struct2 Try.underlying55 h
  rw [cellsLEntry] at hl
  rw [cellsLPrefix] at h0
  rw [cellsInt] at h1
  obtain ⟨xs, k, _, _, hl0, hxl, hf⟩ := DataW.trod_struct Try.underlying39 h0
  match cs, hl with
  | [v0, v1, v2], _ =>
    have g0 := hf 0 _ rfl
    have g1 := hf 1 _ rfl
    match xs, hxl with
    | [z0, z1], _ =>
      simp [cellsInt] at g0 g1 h1
      obtain ⟨a, e0, _⟩ := DataW.trod_int Try.underlying3 g0
      obtain ⟨b, e1, _⟩ := DataW.trod_int Try.underlying3 g1
      obtain ⟨t, e4, _⟩ := DataW.trod_int Try.underlying3 h1
      simp only [List.cons.injEq, and_true] at e0 e1 e4
      subst e0 e1 e4
      exact ⟨⟨⟨a, b⟩, t⟩, rfl⟩
theorem open_entries {H : Type} {en : TypeId × Value → H} {W : World} {b0 : Nat} {r : Reach} {v : Value} {d : DataW H} {p : List MemPlace}
    (hv : Value.okWide Try.prog W r b0 22 v) (h : DataW.Trod en Try.prog W 0 (fun _ => true) true 22 v d p) : ∃ xs : List En, Ens W v xs :=
  open_sl (sz := 3) (enc := En.enc) (by omega) (fun _ => rfl) Try.underlying22 cellsLEntry entry_cells hv h
theorem open_i {H : Type} {en : TypeId × Value → H} {W : World} {b0 : Nat} {r : Reach} {v : Value} {d : DataW H} {p : List MemPlace}
    (hv : Value.okWide Try.prog W r b0 3 v) (h : DataW.Trod en Try.prog W 0 (fun _ => true) true 3 v d p) : ∃ n : Int, v = .int .i64 n ∧ I64 n := by
  obtain ⟨x, rfl, rfl, rfl, wx⟩ := open_int Try.underlying3 hv h
  exact ⟨x, rfl, i64_of_wf wx⟩
end Go.Proofs.Ytfnfpekjjmejnaa
