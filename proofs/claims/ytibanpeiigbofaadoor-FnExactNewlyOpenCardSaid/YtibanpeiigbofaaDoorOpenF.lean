/- How an argument that is a list of rules without calls is opened. -/
import Derived.Test.YtibanpeiigbofaaDoorOpenS
import Derived.Test.YtibanpeiigbofaaDoorFmA
namespace Go.Proofs.YtibanpeiigbofaaDoor
open Go.ChangeShapes Go.WideShapes Go.ChangeAt Go.RowKit Go.Joins Go.Deep
set_option maxRecDepth 100000 in
/-- A slice that comes in, by its cell. -/
theorem open_sl2 {α : Type} {sz : Nat} {enc : α → List Value} (hsz : 0 < sz) (henc : ∀ x, (enc x).length = sz) {H : Type} {en : TypeId × Value → H} {W : World} {t e : TypeId} {R : α → Prop} {fuel : Nat} {cs0 : List Value} {x0 : DataW H × List MemPlace}
    (ht : Tryd.prog.underlying t = some (.slice e)) (hc : Tryd.prog.cellsOf e = sz)
    (hel : ∀ (n : Nat) (cs : List Value) (x : DataW H × List MemPlace), DataW.trod en Tryd.prog W 0 (fun _ => true) true n e cs = some x → ∃ y, cs = enc y ∧ R y)
    (hf : DataW.trod en Tryd.prog W 0 (fun _ => true) true fuel t cs0 = some x0) : ∃ v, cs0 = [v] ∧ ∃ xs : List α, SlAt sz enc W v xs ∧ ∀ x ∈ xs, R x := by
  rcases open_slice ht hf with ⟨hcs, _⟩ | ⟨a', len, cap, m, n, D, Pl, hcs, _, hlc, hcm, hm, _, hcell⟩
  · exact ⟨_, hcs, [], SlAt.nil _ _ _, by simp⟩
  · refine ⟨_, hcs, ?_⟩
    clear hcs
    simp only [if_true] at hm
    subst hm
    have hspot : 0 < len → a'.spot = none := by
      intro h0
      obtain ⟨cs, h1, h2⟩ := hcell 0 (by omega)
      obtain ⟨y, rfl, hy⟩ := hel _ _ _ h2
      rw [hc] at h1
      obtain ⟨_, hl, hg⟩ := World.cells?_some h1
      have h3 := hg 0 hsz
      rw [List.getElem?_eq_getElem (by rw [henc]; exact hsz)] at h3
      simp only [Nat.zero_mul, Addr.add, if_true] at h3
      cases hs : a'.spot with
      | none => rfl
      | some s =>
        exfalso
        unfold World.cell? at h3
        rw [hs] at h3
        split at h3 <;> simp at h3
    have each : ∀ i, i < len → ∃ y : α, a'.spot = none ∧ a'.block < W.heap.size ∧ CellsAt W a'.block (a'.off + i * sz) (enc y) ∧ R y := by
      intro i hi
      have hsp := hspot (by omega)
      obtain ⟨cs, h1, h2⟩ := hcell i (by omega)
      obtain ⟨y, rfl, hy⟩ := hel _ _ _ h2
      rw [hc] at h1
      obtain ⟨_, hl, hg⟩ := World.cells?_some h1
      obtain ⟨ab, ao, ap⟩ := a'
      simp only at hsp
      subst hsp
      have c0 : ∀ j c, (enc y)[j]? = some c → W.cell? ⟨ab, ao + i * sz + j, none⟩ = some c := by
        intro j c hj
        have hjs : j < sz := by have := (List.getElem?_eq_some_iff.1 hj).1; rwa [henc] at this
        have := hg j hjs
        rw [hj, Addr.add_lit, Addr.add_lit] at this
        exact this
      obtain ⟨c, hc0⟩ : ∃ c, (enc y)[0]? = some c := ⟨_, List.getElem?_eq_getElem (by rw [henc]; exact hsz)⟩
      have hlt := World.block_lt_of_cell? W ⟨ab, ao + i * sz + 0, none⟩ (c0 0 c hc0)
      exact ⟨y, rfl, hlt, c0, hy⟩
    have hlist : ∃ xs : List α, xs.length = len ∧ ∀ k x, xs[k]? = some x → a'.spot = none ∧ a'.block < W.heap.size ∧ CellsAt W a'.block (a'.off + k * sz) (enc x) ∧ R x := by
      have : ∀ m, m ≤ len → ∃ xs : List α, xs.length = m ∧ ∀ k x, xs[k]? = some x → a'.spot = none ∧ a'.block < W.heap.size ∧ CellsAt W a'.block (a'.off + k * sz) (enc x) ∧ R x := by
        intro m
        induction m with
        | zero => intro _; exact ⟨[], rfl, fun k x h => by simp at h⟩
        | succ m ih =>
          intro hm
          obtain ⟨xs, hl, hx⟩ := ih (by omega)
          obtain ⟨y, hy⟩ := each m (by omega)
          refine ⟨xs ++ [y], by simp [hl], fun k x hk => ?_⟩
          by_cases hkm : k < xs.length
          · rw [List.getElem?_append_left hkm] at hk
            exact hx k x hk
          · rw [List.getElem?_append_right (by omega)] at hk
            have hk0 : k = xs.length := by
              have := (List.getElem?_eq_some_iff.1 hk).1
              simp at this; omega
            subst hk0
            simp at hk
            subst hk
            rw [hl]
            exact hy
      exact this len (Nat.le_refl _)
    obtain ⟨xs, hl, hx⟩ := hlist
    refine ⟨xs, ⟨some a', _, by rw [hl], by omega, hcm, fun k x hk => ?_⟩, fun x hx2 => by
      obtain ⟨i, hi, rfl⟩ := List.getElem_of_mem hx2
      exact (hx i _ (List.getElem?_eq_getElem hi)).2.2.2⟩
    obtain ⟨h1, h2, h3, _⟩ := hx k x hk
    obtain ⟨ab, ao, ap⟩ := a'
    simp only at h1
    subst h1
    exact ⟨ab, ao, rfl, h2, h3⟩
set_option maxRecDepth 100000 in
theorem all2_of {α β : Type} {R : α → β → Prop} : ∀ (l : List α), (∀ x ∈ l, ∃ y, R x y) → ∃ ys, All2 R l ys
  | [], _ => ⟨[], All2.nil⟩
  | x :: l, h => by
    obtain ⟨y, hy⟩ := h x (by simp)
    obtain ⟨ys, hl, hys⟩ := all2_of l (fun z hz => h z (by simp [hz]))
    refine ⟨y :: ys, by simp [hl], fun k a b ha hb => ?_⟩
    cases k with
    | zero => simp at ha hb; subst ha hb; exact hy
    | succ k => exact hys k a b (by simpa using ha) (by simpa using hb)
set_option maxRecDepth 100000 in
theorem cellsLSpan : Tryd.prog.cellsOf 206 = 2 := by kernel_rfl
set_option maxRecDepth 100000 in
theorem cellsLSpanS : Tryd.prog.cellsOf 193 = 1 := by kernel_rfl
set_option maxRecDepth 100000 in
theorem cellsLSpanSS : Tryd.prog.cellsOf 82 = 1 := by kernel_rfl
set_option maxRecDepth 100000 in
theorem cellsLBox : Tryd.prog.cellsOf 84 = 1 := by kernel_rfl
set_option maxRecDepth 100000 in
theorem cellsLFlat : Tryd.prog.cellsOf 86 = 2 := by kernel_rfl
set_option maxRecDepth 100000 in
theorem cellsBool : Tryd.prog.cellsOf 4 = 1 := by kernel_rfl
section
variable {H : Type} {en : TypeId × Value → H} {W : World}
set_option maxRecDepth 100000 in
theorem span_cells (n : Nat) (cs : List Value) (x : DataW H × List MemPlace) (h : DataW.trod en Tryd.prog W 0 (fun _ => true) true n 206 cs = some x) : ∃ y : Sp, cs = Sp.enc y ∧ True := by
  obtain ⟨y0, y1, m, _, hl, h0, h1⟩ := trod_struct2 Tryd.underlying206 h
  rw [cellsLSpan] at hl
  rw [cellsInt] at h0 h1
  match cs, hl with
  | [v0, v1], _ =>
    simp at h0 h1
    obtain ⟨a, e0, _⟩ := DataW.trod_int Tryd.underlying3 h0
    obtain ⟨b, e1, _⟩ := DataW.trod_int Tryd.underlying3 h1
    simp only [List.cons.injEq, and_true] at e0 e1
    subst e0 e1
    exact ⟨⟨a, b⟩, rfl, trivial⟩
set_option maxRecDepth 100000 in
theorem spanS_cells (n : Nat) (cs : List Value) (x : DataW H × List MemPlace) (h : DataW.trod en Tryd.prog W 0 (fun _ => true) true n 193 cs = some x) : ∃ v : Value, cs = enc1 v ∧ ∃ xs, Sps 0 W v xs := by
  obtain ⟨v, rfl, xs, hs, _⟩ := open_sl2 (sz := 2) (enc := Sp.enc) (by omega) (fun _ => rfl) Tryd.underlying193 cellsLSpan span_cells h
  exact ⟨v, rfl, xs, SlFr.of hs⟩
set_option maxRecDepth 100000 in
theorem spanSS_cells (n : Nat) (cs : List Value) (x : DataW H × List MemPlace) (h : DataW.trod en Tryd.prog W 0 (fun _ => true) true n 82 cs = some x) : ∃ v : Value, cs = enc1 v ∧ ∃ b, Rws 0 W v b := by
  obtain ⟨v, rfl, vs, hs, hx⟩ := open_sl2 (sz := 1) (enc := enc1) (by omega) (fun _ => rfl) Tryd.underlying82 cellsLSpanS spanS_cells h
  obtain ⟨b, hb⟩ := all2_of vs hx
  exact ⟨v, rfl, b, vs, SlFr.of hs, hb⟩
set_option maxRecDepth 100000 in
theorem box_cells (n : Nat) (cs : List Value) (x : DataW H × List MemPlace) (h : DataW.trod en Tryd.prog W 0 (fun _ => true) true n 84 cs = some x) : ∃ v : Value, cs = enc1 v ∧ ∃ b, Rws 0 W v b := by
  obtain ⟨y0, m, _, hl, h0⟩ := trod_struct1 Tryd.underlying84 h
  rw [cellsLBox] at hl
  rw [cellsLSpanSS] at h0
  match cs, hl with
  | [v0], _ =>
    simp at h0
    exact spanSS_cells _ _ _ h0
set_option maxRecDepth 100000 in
theorem flat_cells (n : Nat) (cs : List Value) (x : DataW H × List MemPlace) (h : DataW.trod en Tryd.prog W 0 (fun _ => true) true n 86 cs = some x) : ∃ r : RF, cs = RF.enc r ∧ ∃ b, Rws 0 W r.s b := by
  obtain ⟨y0, y1, m, _, hl, h0, h1⟩ := trod_struct2 Tryd.underlying86 h
  rw [cellsLFlat] at hl
  rw [cellsLBox] at h0
  rw [cellsBool] at h1
  match cs, hl with
  | [v0, v1], _ =>
    simp at h0 h1
    obtain ⟨v, e0, b, hb⟩ := box_cells _ _ _ h0
    obtain ⟨c, e1, _⟩ := DataW.trod_bool Tryd.underlying4 h1
    simp only [List.cons.injEq, and_true] at e0 e1
    subst e0 e1
    exact ⟨⟨v0, c⟩, rfl, b, hb⟩
set_option maxRecDepth 100000 in
theorem open_flats {r : Reach} {b0 : Nat} {v : Value} {d : DataW H} {p : List MemPlace}
    (hw : Value.okWide Tryd.prog W r b0 22 v) (h : DataW.Trod en Tryd.prog W 0 (fun _ => true) true 22 v d p) : ∃ fs : List Ft, Fts 0 W v fs := by
  obtain ⟨a0, len0, cap0, rfl⟩ := okWide_slice Tryd.underlying22 hw
  obtain ⟨fuel, hf⟩ := h
  obtain ⟨v', hv, rs, hs, hx⟩ := open_sl2 (sz := 2) (enc := RF.enc) (by omega) (fun _ => rfl) Tryd.underlying22 cellsLFlat flat_cells hf
  obtain ⟨fs, hl, hfs⟩ := all2_of (R := fun (r : RF) (f : Ft) => Rws 0 W r.s f.box ∧ r.acc = f.acc) rs (fun r hr => let ⟨b, hb⟩ := hx r hr; ⟨⟨b, r.acc⟩, hb, rfl⟩)
  have hvv : (.slice a0 len0 cap0 : Value) = v' := by
    simpa [Value.cells] using hv
  subst hvv
  exact ⟨fs, rs, SlFr.of hs, hl, hfs⟩
set_option maxRecDepth 100000 in
theorem open_box {r : Reach} {b0 : Nat} {v : Value} {d : DataW H} {p : List MemPlace}
    (hw : Value.okWide Tryd.prog W r b0 84 v) (h : DataW.Trod en Tryd.prog W 0 (fun _ => true) true 84 v d p) : ∃ (u : Value) (b : Bx), v = .agg #[u] ∧ Rws 0 W u b := by
  obtain ⟨cs, rfl, hc⟩ := okWide_struct Tryd.underlying84 hw
  rw [cellsLBox] at hc
  obtain ⟨u, rfl⟩ : ∃ u, cs = #[u] := by
    match cs, hc with
    | ⟨[u]⟩, _ => exact ⟨u, rfl⟩
  obtain ⟨fuel, hf⟩ := h
  obtain ⟨u', hu, b, hb⟩ := box_cells _ _ _ hf
  have he : u = u' := by simpa [Value.cells] using hu
  subst he
  exact ⟨u, b, rfl, hb⟩
end
end Go.Proofs.YtibanpeiigbofaaDoor
