/- How an argument that is a slice is opened: whatever its elements. -/
import Derived.JoinedCond
import Derived.ClosedOfChecked
import Derived.Test.YtfcbbahlhjdefaaDoorRows
import Derived.WalkKit
import Derived.ProofKit
import Derived.OpenShut
import Derived.OpenVars
import Derived.Deep.DeepHandedRow
import Derived.Lib.LaidTab
import Derived.Test.YtfcbbahlhjdefaaDoorBsA
import Derived.Lib.SmallJoins
import Derived.Deep.Slices
/- From the walk of a law to what its row asks. -/
namespace Go.Proofs.YtfcbbahlhjdefaaDoor
open Go.ChangeShapes Go.WideShapes Go.ChangeAt Go.RowKit Go.WideElems

theorem own : ownKnob Tryd.prog.godebug = none := by kernel_rfl
theorem laidOk : laidOutB Tryd.prog = true := by kernel_rfl

/-- Arguments read behind the call as they did before it, where nothing that was there has turned. -/
theorem belowTrodAll {P : Program} (hl : laidOutB P = true) {H : Type} {enc : TypeId × Value → H} {W W' : World} (hb : Below W.heap.size W W') {sp : Nat → Bool} :
    ∀ {ts : List TypeId} {vs : List Value} {ds : List (DataW H)} {ps : List MemPlace}, (ts.all fun t => P.readableRec t && decide (t < P.types.size)) = true →
      (∀ p ∈ ps, p.block < W.heap.size) → (∀ p ∈ ps, sp p.block = true) → DataW.TrodAll enc P W 0 (fun _ => true) true ts vs ds ps → DataW.TrodAll enc P W' 0 sp true ts vs ds ps
  | [], [], [], _, _, _, _, h => h
  | [], [], _ :: _, _, _, _, _, h => h.elim
  | [], _ :: _, _, _, _, _, _, h => h.elim
  | _ :: _, [], _, _, _, _, _, h => h.elim
  | _ :: _, _ :: _, [], _, _, _, _, h => h.elim
  | t :: ts, v :: vs, d :: ds, ps, ht, hlt, hsp, h => by
    obtain ⟨p, q, h1, h2, rfl⟩ := h
    simp only [List.all_cons, Bool.and_eq_true, decide_eq_true_eq] at ht
    refine ⟨p, q, WideElems.Trod_stays hl ht.1.1 ht.1.2 h1 (fun x hx => hb.same (hlt x (by simp [hx]))) (fun x hx => hsp x (by simp [hx])), ?_, rfl⟩
    exact belowTrodAll hl hb ht.2 (fun x hx => hlt x (by simp [hx])) (fun x hx => hsp x (by simp [hx])) h2

theorem belowTrodVars {P : Program} (hl : laidOutB P = true) {H : Type} {enc : TypeId × Value → H} {W W' : World} (hb : Below W.heap.size W W') {sp : Nat → Bool} :
    ∀ {ns : List String} {gs : List (DataW H)} {ps : List MemPlace}, varsRowed P ns = true → (∀ p ∈ ps, sp p.block = true) →
      DataW.TrodVars enc P W (fun _ => true) ns gs ps → DataW.TrodVars enc P W' sp ns gs ps
  | [], [], _, _, _, h => h
  | [], _ :: _, _, _, _, h => h.elim
  | _ :: _, [], _, _, _, h => h.elim
  | n :: ns, d :: ds, ps, hv, hsp, h => by
    have hlt := h.lt
    obtain ⟨g, t, cs, fuel, p, q, h1, h2, h3, h4, hs, e⟩ := h
    simp only [varsRowed, List.all_cons, Bool.and_eq_true] at hv
    have ht : P.readableRec t = true ∧ t < P.types.size := by
      have := hv.1
      rw [h1] at this
      cases hg : P.globals[g]? with
      | none => rw [hg] at h2; cases h2
      | some gl =>
        rw [hg] at h2
        obtain rfl : gl.type = t := Option.some.inj h2
        simpa [hg] using this
    have hp : ∀ x ∈ p, x.block < W.heap.size := fun x hx => hlt x (by rw [e]; simp [hx])
    have hq : ∀ x ∈ p, sp x.block = true := fun x hx => hsp x (by rw [e]; simp [hx])
    have h3' : W'.var? P n = some cs := by
      unfold World.var? at h3 ⊢
      rw [h1] at h3 ⊢
      simp only [Option.bind_some] at h3 ⊢
      have hg : g < W.heap.size := by
        cases hh : W.heap[g]? with
        | none => rw [hh] at h3; cases h3
        | some o => exact (Array.getElem?_eq_some_iff.1 hh).1
      rw [hb.block g hg]; exact h3
    exact ⟨g, t, cs, fuel, p, q, h1, h2, h3', DataW.trod_stays (kids_book hl ht.1) (book_sized ht.1) (fun h => by cases h) ⟨ht.2, book_self t⟩ h4 (fun x hx => hb.same (hp x hx)) hq,
      belowTrodVars hl hb (by simpa [varsRowed] using hv.2) (fun x hx => hsp x (by rw [e]; simp [hx])) hs, e⟩

/-- What the row asks behind a call that answers true and turns nothing that was there. -/
theorem law_post {H : Type} {enc : TypeId × Value → H} {f : Func} {s : ChangeSpec} (hrt : f.resultTypes = #[4])
    (hpar : (f.params.toList.all fun t => Tryd.prog.readableRec t && decide (t < Tryd.prog.types.size)) = true) (hvr : varsRowed Tryd.prog s.vars = true)
    {W W' : World} {args : Array Value} {ds gs : List (DataW H)} {before : List MemPlace} (hW : DataW.Whole enc Tryd.prog f.params.toList s.vars false W args.toList ds gs before)
    (hfn : s.fn H (ds ++ gs) = { results := [.lit (.bool true)], args := ds, vars := gs }) (hb : Below W.heap.size W W') :
    s.post enc Tryd.prog f false true false false W args (.bool true) W' := by
  have hlt := hW.lt
  have hW0 := hW
  obtain ⟨p, q, hA, hV, rfl, hz, hn⟩ := hW0
  have hsp : ∀ x ∈ p ++ q, (fun b => decide (b < W.heap.size)) x.block = true := fun x hx => by simpa using hlt x hx
  refine ⟨ds, gs, p ++ q, [], p, q, hW, ?_, ?_, ?_, hb.frame _, fun h => by cases h⟩
  · rw [hfn, hrt]
    exact trodAll_cons_mk (shut_bool Tryd.underlying4 _) trodAll_mk0
  · rw [hfn]
    exact belowTrodAll laidOk hb hpar (fun x hx => hlt x (by simp [hx])) (fun x hx => hsp x (by simp [hx])) hA
  · rw [hfn]
    exact belowTrodVars laidOk hb hvr (fun x hx => hsp x (by simp [hx])) hV

theorem gTab : Tryd.prog.globalNamed "loop.example/packetfilter/impl.fieldShapes" = some 0 := by kernel_rfl
theorem gTabType : (Tryd.prog.globals[0]?).map (·.type) = some 115 := by kernel_rfl
theorem cellsTab : Tryd.prog.cellsOf 115 = 8 := by kernel_rfl
theorem cellsShape : Tryd.prog.cellsOf 114 = 2 := by kernel_rfl

theorem cellsInt : Tryd.prog.cellsOf 3 = 1 := by kernel_rfl
theorem shape_top {H : Type} {enc : TypeId × Value → H} {w : World} {base : Nat} {sp : Nat → Bool} {held : Bool} {fuel : Nat} {cs : List Value} {d : DataW H} {z : Int} {p : List MemPlace}
    (h : DataW.trod enc Tryd.prog w base sp held fuel 114 cs = some (.agg [d, .lit (.int .i64 z)], p)) : cs[1]? = some (.int .i64 z) := by
  obtain ⟨y0, y1, n, hx, hl, h0, h1⟩ := trod_struct2 Tryd.underlying114 h
  simp only [Prod.mk.injEq, DataW.agg.injEq, List.cons.injEq, and_true] at hx
  obtain ⟨⟨_, hy⟩, _⟩ := hx
  rw [cellsInt] at h1
  obtain ⟨z', hc, hz, _⟩ := DataW.trod_int Tryd.underlying3 h1
  rw [hz] at hy
  simp only [DataW.lit.injEq, Lit.int.injEq, true_and] at hy
  have := congrArg (·[0]?) hc
  simpa [List.getElem?_take, List.getElem?_drop, hy] using this
/-- What the list of the row gives: the table holds its four numbers. -/
theorem tab_of_laid {W : World} (h : laidMetH Tryd.prog [("loop.example/packetfilter/impl.fieldShapes", Rows.laid_loop_example_packetfilter_impl_fieldShapes)] W) : Tab W := by
  have h' : laidMet Tryd.prog [("loop.example/packetfilter/impl.fieldShapes", Rows.laid_loop_example_packetfilter_impl_fieldShapes)] W := h
  obtain ⟨ps, ⟨g', t', cs, fuel, p, q, hg', ht', hvar, hd, _, _⟩, _⟩ := h'
  obtain rfl := Option.some.inj (gTab.symm.trans hg')
  obtain rfl := Option.some.inj (gTabType.symm.trans ht')
  obtain ⟨xs, m, rfl, hx, hcl, hxl, hi⟩ := DataW.trod_array Tryd.underlying115 hd
  rw [cellsTab] at hcl
  rw [cellsShape] at hi
  simp only [Rows.laid_loop_example_packetfilter_impl_fieldShapes, Prod.mk.injEq, DataW.agg.injEq] at hx
  obtain ⟨hx, _⟩ := hx
  match xs, hxl with
  | [y0, y1, y2, y3], _ =>
    simp only [List.map_cons, List.map_nil, List.cons.injEq, and_true] at hx
    obtain ⟨e0, e1, e2, e3⟩ := hx
    have k0 := shape_top (p := y0.2) (by rw [e0]; exact hi 0 (by omega))
    have k1 := shape_top (p := y1.2) (by rw [e1]; exact hi 1 (by omega))
    have k2 := shape_top (p := y2.2) (by rw [e2]; exact hi 2 (by omega))
    have k3 := shape_top (p := y3.2) (by rw [e3]; exact hi 3 (by omega))
    simp [List.getElem?_drop] at k0 k1 k2 k3
    unfold World.var? at hvar
    rw [gTab] at hvar
    simp only [Option.bind_some] at hvar
    have hc : ∀ (i : Nat) v, cs[i]? = some v → W.cell? ⟨0, i, none⟩ = some v := by
      intro i v hv
      unfold World.cell?
      split at hvar
      · rename_i c t fr hh
        obtain rfl := Option.some.inj hvar
        simp [hh, hv]
      · cases hvar
    have h0 : 0 < W.heap.size := by
      cases hh : W.heap[0]? with
      | none => rw [hh] at hvar; cases hvar
      | some o => exact (Array.getElem?_eq_some_iff.1 hh).1
    exact ⟨h0, hc _ _ (by simpa using k0), hc _ _ (by simpa using k1), hc _ _ (by simpa using k2), hc _ _ (by simpa using k3)⟩
theorem and2 {a b : Bool} (h : a = true) (g : b = true) : (a && b) = true := by rw [h, g]; rfl
theorem joined_of {P : Program} {f : FuncId} {fn : Func} {s : ChangeSpec} {c : OpenClaim} (h0 : c.wf (OpenSpec.ofChange s) = true) (h1 : laidOutB P = true) (h2 : mapsRowed P = true) (h3 : fn.params.all (P.readableRec ·) = true) (h4 : namedTie P c.named s.vars = true) (h5 : (c.stops == []) = true) (h6 : (P.stops == []) = true) (h7 : (c.knobs == []) = true) (h8 : (P.stopKnobs == []) = true) (h9 : (c.inPlace == P.inPlace f) = true) (h10 : (c.unfollowed == P.unfollowed f) = true) (h11 : (c.recurses == P.recurses f) = true) (h12 : (c.named == P.varsNamed f) = true) (h13 : (c.maps == (fn.params.toList ++ s.plain.varTypes P).any (P.mapsRec ·)) = true) (h14 : (c.ifaces == (fn.params.toList ++ s.plain.varTypes P).any (P.ifacesRec ·)) = true) (h15 : (c.mapsOut == P.mapsAmong fn.resultTypes.toList) = true) (h16 : (c.loops == (fn.params.toList ++ s.plain.varTypes P).any (P.loopsFrom ·)) = true) (h17 : (c.wideKeys == (fn.params.toList ++ s.plain.varTypes P ++ fn.resultTypes.toList).any (P.wideKeysFrom ·)) = true) (h18 : s.vars.all (P.varReadable ·) = true) (h19 : fn.resultTypes.all (fun t => P.readableRec t && decide (t < P.types.size)) = true) (h20 : (c.ifacesOut == fn.resultTypes.toList.any (P.ifacesRec ·)) = true) (h21 : (c.loopsOut == fn.resultTypes.toList.any (P.loopsFrom ·)) = true) (h22 : (c.plainKeys == P.plainKeys) = true) (h23 : c.shortTexts.isNone = true) (h24 : P.stopsHeard = true) (h25 : P.mayEnter = true) (h26 : (c.lifted == P.liftsFinal) = true) (h27 : (P.make == some c.make) = true) (h28 : (c.kinds == (if c.domain.isEmpty then [] else fn.params.toList.map fun t => match P.underlying t with | some (.int k) => some k | _ => none)) = true) (h29 : (c.pinned == c.pinnedBy) = true) (h30 : (c.veiled == (fn.params.toList ++ s.plain.varTypes P ++ fn.resultTypes.toList).any (P.veiledRec ·)) = true) (h31 : c.veiledFits P fn.params.toList (fn.params.toList ++ s.plain.varTypes P ++ fn.resultTypes.toList) = true) : joinedFacts P f fn s c = true := by
  exact (and2 (and2 (and2 (and2 (and2 (and2 (and2 (and2 (and2 (and2 (and2 (and2 (and2 (and2 (and2 (and2 (and2 (and2 (and2 (and2 (and2 (and2 (and2 (and2 (and2 (and2 (and2 (and2 (and2 (and2 (and2 h0 h1) h2) h3) h4) h5) h6) h7) h8) h9) h10) h11) h12) h13) h14) h15) h16) h17) h18) h19) h20) h21) h22) h23) h24) h25) h26) h27) h28) h29) h30) h31)
end Go.Proofs.YtfcbbahlhjdefaaDoor
/- How the arguments of the laws are opened. -/
namespace Go.Proofs.YtfcbbahlhjdefaaDoor
open Go.ChangeShapes Go.WideShapes Go.ChangeAt Go.RowKit Go.Joins
/-- The variable's own block in a world for the witnesses. -/
noncomputable def laidWorld (os : Os) : World :=
  { World.holding Tryd.prog os ⟨#[], #[], []⟩ with heap := (World.holding Tryd.prog os ⟨#[], #[], []⟩).heap.modify 0 fun
      | .cells _ t frozen => .cells #[.string ⟨#[102, 114, 111, 109]⟩, .int .i64 65535, .string ⟨#[116, 111]⟩, .int .i64 65535, .string ⟨#[112, 111, 114, 116]⟩, .int .i64 255, .string ⟨#[112, 114, 111, 116, 111]⟩, .int .i64 7] t frozen
      | o => o }
end Go.Proofs.YtfcbbahlhjdefaaDoor
namespace Go.Proofs.YtfcbbahlhjdefaaDoor
open Go.ChangeShapes Go.WideShapes Go.ChangeAt Go.RowKit Go.Joins Go.Deep
set_option maxRecDepth 100000 in
/-- A slice that comes in: what its elements read as. -/
theorem open_sl {α : Type} {sz : Nat} {enc : α → List Value} (hsz : 0 < sz) (henc : ∀ x, (enc x).length = sz) {H : Type} {en : TypeId × Value → H} {W : World} {b0 : Nat} {r : Reach} {t e : TypeId} {v : Value} {d : DataW H} {p : List MemPlace}
    (ht : Tryd.prog.underlying t = some (.slice e)) (hc : Tryd.prog.cellsOf e = sz)
    (hel : ∀ (n : Nat) (cs : List Value) (x : DataW H × List MemPlace), DataW.trod en Tryd.prog W 0 (fun _ => true) true n e cs = some x → ∃ y, cs = enc y)
    (hv : Value.okWide Tryd.prog W r b0 t v) (h : DataW.Trod en Tryd.prog W 0 (fun _ => true) true t v d p) : ∃ xs : List α, SlAt sz enc W v xs := by
  obtain ⟨a, len, cap, rfl⟩ := okWide_slice ht hv
  obtain ⟨fuel, hf⟩ := h
  rcases open_slice ht hf with ⟨hcs, _⟩ | ⟨a', len', cap', m, n, D, Pl, hcs, _, hlc, hcm, hm, _, hcell⟩
  · simp [Value.cells] at hcs
    obtain ⟨rfl, rfl, rfl⟩ := hcs
    exact ⟨[], SlAt.nil _ _ _⟩
  · simp only [Value.cells, List.cons.injEq, Value.slice.injEq, and_true, List.toList_toArray] at hcs
    obtain ⟨rfl, rfl, rfl⟩ := hcs
    simp only [if_true] at hm
    subst hm
    have hspot : 0 < len → a'.spot = none := by
      intro h0
      obtain ⟨cs, h1, h2⟩ := hcell 0 (by omega)
      obtain ⟨y, rfl⟩ := hel _ _ _ h2
      rw [hc] at h1
      obtain ⟨_, hl, hg⟩ := World.cells?_some h1
      have h3 := hg 0 hsz
      rw [List.getElem?_eq_getElem (by rw [henc]; exact hsz)] at h3
      simp only [Nat.zero_mul, Addr.add, if_true] at h3
      cases hs : a'.spot with
      | none => rfl
      | some s =>
        exfalso
        unfold World.cell? at h3
        rw [hs] at h3
        split at h3 <;> simp at h3
    have each : ∀ i, i < len → ∃ y : α, a'.spot = none ∧ a'.block < W.heap.size ∧ CellsAt W a'.block (a'.off + i * sz) (enc y) := by
      intro i hi
      have hsp := hspot (by omega)
      obtain ⟨cs, h1, h2⟩ := hcell i (by omega)
      obtain ⟨y, rfl⟩ := hel _ _ _ h2
      rw [hc] at h1
      obtain ⟨_, hl, hg⟩ := World.cells?_some h1
      obtain ⟨ab, ao, ap⟩ := a'
      simp only at hsp
      subst hsp
      have c0 : ∀ j c, (enc y)[j]? = some c → W.cell? ⟨ab, ao + i * sz + j, none⟩ = some c := by
        intro j c hj
        have hjs : j < sz := by have := (List.getElem?_eq_some_iff.1 hj).1; rwa [henc] at this
        have := hg j hjs
        rw [hj, Addr.add_lit, Addr.add_lit] at this
        exact this
      obtain ⟨c, hc0⟩ : ∃ c, (enc y)[0]? = some c := ⟨_, List.getElem?_eq_getElem (by rw [henc]; exact hsz)⟩
      have hlt := World.block_lt_of_cell? W ⟨ab, ao + i * sz + 0, none⟩ (c0 0 c hc0)
      exact ⟨y, rfl, hlt, c0⟩
    have hlist : ∃ xs : List α, xs.length = len ∧ ∀ k x, xs[k]? = some x → a'.spot = none ∧ a'.block < W.heap.size ∧ CellsAt W a'.block (a'.off + k * sz) (enc x) := by
      have : ∀ m, m ≤ len → ∃ xs : List α, xs.length = m ∧ ∀ k x, xs[k]? = some x → a'.spot = none ∧ a'.block < W.heap.size ∧ CellsAt W a'.block (a'.off + k * sz) (enc x) := by
        intro m
        induction m with
        | zero => intro _; exact ⟨[], rfl, fun k x h => by simp at h⟩
        | succ m ih =>
          intro hm
          obtain ⟨xs, hl, hx⟩ := ih (by omega)
          obtain ⟨y, hy⟩ := each m (by omega)
          refine ⟨xs ++ [y], by simp [hl], fun k x hk => ?_⟩
          by_cases hkm : k < xs.length
          · rw [List.getElem?_append_left hkm] at hk
            exact hx k x hk
          · rw [List.getElem?_append_right (by omega)] at hk
            have hk0 : k = xs.length := by
              have := (List.getElem?_eq_some_iff.1 hk).1
              simp at this; omega
            subst hk0
            simp at hk
            subst hk
            rw [hl]
            exact hy
      exact this len (Nat.le_refl _)
    obtain ⟨xs, hl, hx⟩ := hlist
    refine ⟨xs, some a', _, by rw [hl], by omega, hcm, fun k x hk => ?_⟩
    obtain ⟨h1, h2, h3⟩ := hx k x hk
    obtain ⟨ab, ao, ap⟩ := a'
    simp only at h1
    subst h1
    exact ⟨ab, ao, rfl, h2, h3⟩

end Go.Proofs.YtfcbbahlhjdefaaDoor
