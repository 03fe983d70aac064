/- How an argument that is a list of rules without calls is opened. -/
import Derived.Test.YtfcbbahlhjdefaaGreatDoorOpenS
import Derived.Test.YtfcbbahlhjdefaaGreatDoorFmA
namespace Go.Proofs.YtfcbbahlhjdefaaGreatDoor
open Go.ChangeShapes Go.WideShapes Go.ChangeAt Go.RowKit Go.Joins Go.Deep
set_option maxRecDepth 100000 in
/-- A slice that comes in, by its cell. -/
theorem open_sl2 {α : Type} {sz : Nat} {enc : α → List Value} (hsz : 0 < sz) (henc : ∀ x, (enc x).length = sz) {H : Type} {en : TypeId × Value → H} {W : World} {t e : TypeId} {R : α → Prop} {fuel : Nat} {cs0 : List Value} {x0 : DataW H × List MemPlace}
    (ht : Tryz.prog.underlying t = some (.slice e)) (hc : Tryz.prog.cellsOf e = sz)
    (hel : ∀ (n : Nat) (cs : List Value) (x : DataW H × List MemPlace), DataW.trod en Tryz.prog W 0 (fun _ => true) true n e cs = some x → ∃ y, cs = enc y ∧ R y)
    (hf : DataW.trod en Tryz.prog W 0 (fun _ => true) true fuel t cs0 = some x0) : ∃ v, cs0 = [v] ∧ ∃ xs : List α, SlAt sz enc W v xs ∧ ∀ x ∈ xs, R x := by
  rcases open_slice ht hf with ⟨hcs, _⟩ | ⟨a', len, cap, m, n, D, Pl, hcs, _, hlc, hcm, hm, _, hcell⟩
  · exact ⟨_, hcs, [], SlAt.nil _ _ _, by simp⟩
  · refine ⟨_, hcs, ?_⟩
    clear hcs
    simp only [if_true] at hm
    subst hm
    have hspot : 0 < len → a'.spot = none := by
      intro h0
      obtain ⟨cs, h1, h2⟩ := hcell 0 (by omega)
      obtain ⟨y, rfl, hy⟩ := hel _ _ _ h2
      rw [hc] at h1
      obtain ⟨_, hl, hg⟩ := World.cells?_some h1
      have h3 := hg 0 hsz
      rw [List.getElem?_eq_getElem (by rw [henc]; exact hsz)] at h3
      simp only [Nat.zero_mul, Addr.add, if_true] at h3
      cases hs : a'.spot with
      | none => rfl
      | some s =>
        exfalso
        unfold World.cell? at h3
        rw [hs] at h3
        split at h3 <;> simp at h3
    have each : ∀ i, i < len → ∃ y : α, a'.spot = none ∧ a'.block < W.heap.size ∧ CellsAt W a'.block (a'.off + i * sz) (enc y) ∧ R y := by
      intro i hi
      have hsp := hspot (by omega)
      obtain ⟨cs, h1, h2⟩ := hcell i (by omega)
      obtain ⟨y, rfl, hy⟩ := hel _ _ _ h2
      rw [hc] at h1
      obtain ⟨_, hl, hg⟩ := World.cells?_some h1
      obtain ⟨ab, ao, ap⟩ := a'
      simp only at hsp
      subst hsp
      have c0 : ∀ j c, (enc y)[j]? = some c → W.cell? ⟨ab, ao + i * sz + j, none⟩ = some c := by
        intro j c hj
        have hjs : j < sz := by have := (List.getElem?_eq_some_iff.1 hj).1; rwa [henc] at this
        have := hg j hjs
        rw [hj, Addr.add_lit, Addr.add_lit] at this
        exact this
      obtain ⟨c, hc0⟩ : ∃ c, (enc y)[0]? = some c := ⟨_, List.getElem?_eq_getElem (by rw [henc]; exact hsz)⟩
      have hlt := World.block_lt_of_cell? W ⟨ab, ao + i * sz + 0, none⟩ (c0 0 c hc0)
      exact ⟨y, rfl, hlt, c0, hy⟩
    have hlist : ∃ xs : List α, xs.length = len ∧ ∀ k x, xs[k]? = some x → a'.spot = none ∧ a'.block < W.heap.size ∧ CellsAt W a'.block (a'.off + k * sz) (enc x) ∧ R x := by
      have : ∀ m, m ≤ len → ∃ xs : List α, xs.length = m ∧ ∀ k x, xs[k]? = some x → a'.spot = none ∧ a'.block < W.heap.size ∧ CellsAt W a'.block (a'.off + k * sz) (enc x) ∧ R x := by
        intro m
        induction m with
        | zero => intro _; exact ⟨[], rfl, fun k x h => by simp at h⟩
        | succ m ih =>
          intro hm
          obtain ⟨xs, hl, hx⟩ := ih (by omega)
          obtain ⟨y, hy⟩ := each m (by omega)
          refine ⟨xs ++ [y], by simp [hl], fun k x hk => ?_⟩
          by_cases hkm : k < xs.length
          · rw [List.getElem?_append_left hkm] at hk
            exact hx k x hk
          · rw [List.getElem?_append_right (by omega)] at hk
            have hk0 : k = xs.length := by
              have := (List.getElem?_eq_some_iff.1 hk).1
              simp at this; omega
            subst hk0
            simp at hk
            subst hk
            rw [hl]
            exact hy
      exact this len (Nat.le_refl _)
    obtain ⟨xs, hl, hx⟩ := hlist
    refine ⟨xs, ⟨some a', _, by rw [hl], by omega, hcm, fun k x hk => ?_⟩, fun x hx2 => by
      obtain ⟨i, hi, rfl⟩ := List.getElem_of_mem hx2
      exact (hx i _ (List.getElem?_eq_getElem hi)).2.2.2⟩
    obtain ⟨h1, h2, h3, _⟩ := hx k x hk
    obtain ⟨ab, ao, ap⟩ := a'
    simp only at h1
    subst h1
    exact ⟨ab, ao, rfl, h2, h3⟩
set_option maxRecDepth 100000 in
theorem all2_of {α β : Type} {R : α → β → Prop} : ∀ (l : List α), (∀ x ∈ l, ∃ y, R x y) → ∃ ys, All2 R l ys
  | [], _ => ⟨[], All2.nil⟩
  | x :: l, h => by
    obtain ⟨y, hy⟩ := h x (by simp)
    obtain ⟨ys, hl, hys⟩ := all2_of l (fun z hz => h z (by simp [hz]))
    refine ⟨y :: ys, by simp [hl], fun k a b ha hb => ?_⟩
    cases k with
    | zero => simp at ha hb; subst ha hb; exact hy
    | succ k => exact hys k a b (by simpa using ha) (by simpa using hb)
set_option maxRecDepth 100000 in
theorem cellsBool : Tryz.prog.cellsOf 4 = 1 := by kernel_rfl
section
variable {H : Type} {en : TypeId × Value → H} {W : World}
end
end Go.Proofs.YtfcbbahlhjdefaaGreatDoor
