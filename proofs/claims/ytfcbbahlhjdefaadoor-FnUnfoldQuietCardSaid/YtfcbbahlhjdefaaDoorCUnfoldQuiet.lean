/- FnUnfoldQuiet answers true at all codes: at the drawn ruleset and packet the program's Judge answers as the reference's; with the decisions replaced nothing comes out of the program's Unfold, and its Judge and JudgedBy decide by what holds otherwise. No condition. -/
import Derived.Test.YtfcbbahlhjdefaaDoorFmZ
import Derived.Test.YtfcbbahlhjdefaaDoorLdUq
import Derived.Test.YtfcbbahlhjdefaaDoorCards
import Derived.Test.YtfcbbahlhjdefaaDoorTie
import Derived.SevenTiedAt
namespace Go.Proofs.YtfcbbahlhjdefaaDoor
open Go.ChangeShapes Go.WideShapes Go.ChangeAt Go.RowKit
set_option maxRecDepth 100000
namespace CFnUnfoldQuiet
set_option maxHeartbeats 400000 in
theorem contract (H : Type) (enc : TypeId × Value → H) (W : World) (base : Nat) (args : Array Value) (ds gs : List (DataW H)) (before : List MemPlace)
    (hval : ∀ (j : Nat) t v, Tryd.f3.params[j]? = some t → args[j]? = some v → Value.okWide Tryd.prog W .any base t v)
    (hW : DataW.Whole enc Tryd.prog Tryd.f3.params.toList Rows.fnUnfoldQuietSpec.vars false W args.toList ds gs before) (hL : laidMetH Tryd.prog Rows.fnUnfoldQuietRow.laid W) :
    Calls Tryd.prog 3 args W fun e W' => ∃ v, e = .returned v ∧ Rows.fnUnfoldQuietSpec.post enc Tryd.prog Tryd.f3 false true false false W args v W' := by
  have hW' := hW
  obtain ⟨p, q, hA0, hV, rfl, hfz, hnd⟩ := hW
  have hA : DataW.TrodAll enc Tryd.prog W 0 (fun _ => true) true Tryd.f3.params.toList args.toList ds p := hA0
  rw [Tryd.params3] at hA hval
  obtain ⟨v0, vs0, d0, ds0, p0, q0, ha0, rfl, rfl, h0, r0⟩ := trodAll_cons hA
  obtain ⟨rfl, rfl, rfl⟩ := trodAll_nil r0
  obtain rfl : args = #[v0] := by cases args; simp_all
  obtain ⟨g, t, cs, fuel, dg, pg, rfl, _, _, _, _, _⟩ := trodVars_one hV
  have ht : Tab W := tab_of_laid hL
  obtain ⟨bs, hs⟩ := open_code (hval 0 _ v0 rfl rfl) h0
  refine (law_FnUnfoldQuiet bs v0 W hs ht).mono fun e W' ⟨he, hb⟩ => ⟨_, he, law_post rfl (by kernel_rfl) (by kernel_rfl) hW' rfl hb⟩
theorem laid_met (os : Os) : laidMet Tryd.prog Rows.fnUnfoldQuietRow.laid ((laidWorld os).forCall (fun _ _ => 0) ⟨#[], #[.slice none 0 0], []⟩).memory :=
  laidMet_of_run' 8 (by kernel_rfl) (by kernel_rfl)
theorem reads (os : Os) {H : Type} (enc : TypeId × Value → H) : ∃ places, DataW.whole enc Tryd.prog ((laidWorld os).forCall (fun _ _ => 0) ⟨#[], #[.slice none 0 0], []⟩).memory Tryd.f3.params.toList Rows.fnUnfoldQuietSpec.vars false #[.slice none 0 0].toList 8 = some ([.nil], [Rows.laid_loop_example_packetfilter_impl_fieldShapes], places) :=
  ⟨[.cell 0 0, .cell 0 1, .cell 0 2, .cell 0 3, .cell 0 4, .cell 0 5, .cell 0 6, .cell 0 7], by kernel_rfl⟩
set_option maxRecDepth 100000 in
theorem lifted (os : Os) (started : os.Started) (H : Type) (enc : TypeId × Value → H) (F : Stop.Interp) :
    ReturnsInHanded {} Tryd.checked os 3 .any ((OpenSpec.ofChange Rows.fnUnfoldQuietSpec).preRow enc Tryd.prog Tryd.f3 Rows.fnUnfoldQuietRow.domain false Rows.fnUnfoldQuietRow.laid) (((OpenSpec.ofChange Rows.fnUnfoldQuietSpec).at F).post enc Tryd.prog Tryd.f3 false true false false) := by
  obtain ⟨places, hx⟩ := reads os enc
  refine returnsInHanded_of_row (C := Tryd.checked) (s := OpenSpec.ofChange Rows.fnUnfoldQuietSpec) own started (by kernel_rfl) Tryd.func3
    (witness_row_at (enc := enc) (C := Tryd.checked) false (laidWorld os) #[.slice none 0 0] rfl (by kernel_rfl) (by kernel_rfl) (by kernel_rfl)
      (OpenSpec.preRow_of_cond 8 hx (by kernel_rfl) (fun k hk => by cases hk) (by kernel_rfl) (laid_met os))) ?_
  intro W base args ds gs before hval hW _ _ _ hL _ _
  exact contract H enc W base args ds gs before hval hW hL
theorem k0 : laidOutB Tryd.pinned.checked.prog = true ∧ mapsRowed Tryd.pinned.checked.prog = true ∧ Tryd.pinned.checked.prog.plainKeys = true := ClosedOfChecked.closed_of_checked Tryd.pinned.checked (by kernel_rfl) (by kernel_rfl) (by kernel_rfl)
theorem k1 : Rows.fnUnfoldQuietRow.wf (OpenSpec.ofChange Rows.fnUnfoldQuietSpec) = true := by kernel_rfl
theorem k4 : Tryd.f3.params.all (Tryd.pinned.checked.prog.readableRec ·) = true := by kernel_rfl
theorem k5 : namedTie Tryd.pinned.checked.prog Rows.fnUnfoldQuietRow.named Rows.fnUnfoldQuietSpec.vars = true := by kernel_rfl
theorem k6 : (Rows.fnUnfoldQuietRow.stops == []) = true := by kernel_rfl
theorem k7 : (Tryd.pinned.checked.prog.stops == []) = true := by kernel_rfl
theorem k8 : (Rows.fnUnfoldQuietRow.knobs == []) = true := by kernel_rfl
theorem k9 : (Tryd.pinned.checked.prog.stopKnobs == []) = true := by kernel_rfl
theorem k10 : (Rows.fnUnfoldQuietRow.inPlace == Tryd.pinned.checked.prog.inPlace 3) = true := by kernel_rfl
theorem k11 : (Rows.fnUnfoldQuietRow.unfollowed == Tryd.pinned.checked.prog.unfollowed 3) = true := by kernel_rfl
theorem k12 : (Rows.fnUnfoldQuietRow.recurses == Tryd.pinned.checked.prog.recurses 3) = true := by kernel_rfl
theorem k13 : (Rows.fnUnfoldQuietRow.named == Tryd.pinned.checked.prog.varsNamed 3) = true := by kernel_rfl
theorem k14 : (Rows.fnUnfoldQuietRow.maps == (Tryd.f3.params.toList ++ Rows.fnUnfoldQuietSpec.plain.varTypes Tryd.pinned.checked.prog).any (Tryd.pinned.checked.prog.mapsRec ·)) = true := by kernel_rfl
theorem k15 : (Rows.fnUnfoldQuietRow.ifaces == (Tryd.f3.params.toList ++ Rows.fnUnfoldQuietSpec.plain.varTypes Tryd.pinned.checked.prog).any (Tryd.pinned.checked.prog.ifacesRec ·)) = true := by kernel_rfl
theorem k16 : (Rows.fnUnfoldQuietRow.mapsOut == Tryd.pinned.checked.prog.mapsAmong Tryd.f3.resultTypes.toList) = true := by kernel_rfl
theorem k17 : (Rows.fnUnfoldQuietRow.loops == (Tryd.f3.params.toList ++ Rows.fnUnfoldQuietSpec.plain.varTypes Tryd.pinned.checked.prog).any (Tryd.pinned.checked.prog.loopsFrom ·)) = true := by kernel_rfl
theorem k17b : (Rows.fnUnfoldQuietRow.wideKeys == (Tryd.f3.params.toList ++ Rows.fnUnfoldQuietSpec.plain.varTypes Tryd.pinned.checked.prog ++ Tryd.f3.resultTypes.toList).any (Tryd.pinned.checked.prog.wideKeysFrom ·)) = true := by kernel_rfl
theorem k18 : Rows.fnUnfoldQuietSpec.vars.all (Tryd.pinned.checked.prog.varReadable ·) = true := by kernel_rfl
theorem k19 : Tryd.f3.resultTypes.all (fun t => Tryd.pinned.checked.prog.readableRec t && decide (t < Tryd.pinned.checked.prog.types.size)) = true := by kernel_rfl
theorem k20 : (Rows.fnUnfoldQuietRow.ifacesOut == Tryd.f3.resultTypes.toList.any (Tryd.pinned.checked.prog.ifacesRec ·)) = true := by kernel_rfl
theorem k21 : (Rows.fnUnfoldQuietRow.loopsOut == Tryd.f3.resultTypes.toList.any (Tryd.pinned.checked.prog.loopsFrom ·)) = true := by kernel_rfl
theorem k23 : Rows.fnUnfoldQuietRow.shortTexts.isNone = true := by kernel_rfl
theorem k23b : Tryd.pinned.checked.prog.stopsHeard = true := by kernel_rfl
theorem k24 : Tryd.pinned.checked.prog.mayEnter = true := by kernel_rfl
theorem k24b : (Rows.fnUnfoldQuietRow.lifted == Tryd.pinned.checked.prog.liftsFinal) = true := by kernel_rfl
theorem k24c : (Tryd.pinned.checked.prog.make == some Rows.fnUnfoldQuietRow.make) = true := by kernel_rfl
theorem k25 : (Rows.fnUnfoldQuietRow.kinds == (if Rows.fnUnfoldQuietRow.domain.isEmpty then [] else Tryd.f3.params.toList.map fun t => match Tryd.pinned.checked.prog.underlying t with | some (.int k) => some k | _ => none)) = true := by kernel_rfl
theorem k26 : (Rows.fnUnfoldQuietRow.pinned == Rows.fnUnfoldQuietRow.pinnedBy) = true := by kernel_rfl
theorem k27 : (Rows.fnUnfoldQuietRow.veiled == (Tryd.f3.params.toList ++ Rows.fnUnfoldQuietSpec.plain.varTypes Tryd.pinned.checked.prog ++ Tryd.f3.resultTypes.toList).any (Tryd.pinned.checked.prog.veiledRec ·)) = true := by kernel_rfl
theorem k28 : Rows.fnUnfoldQuietRow.veiledFits Tryd.pinned.checked.prog Tryd.f3.params.toList (Tryd.f3.params.toList ++ Rows.fnUnfoldQuietSpec.plain.varTypes Tryd.pinned.checked.prog ++ Tryd.f3.resultTypes.toList) = true := by kernel_rfl
theorem k22 : (Rows.fnUnfoldQuietRow.plainKeys == Tryd.pinned.checked.prog.plainKeys) = true := by rw [k0.2.2]; rfl
theorem closed : joinedFacts Tryd.pinned.checked.prog 3 Tryd.f3 Rows.fnUnfoldQuietSpec Rows.fnUnfoldQuietRow = true := joined_of k1 k0.1 k0.2.1 k4 k5 k6 k7 k8 k9 k10 k11 k12 k13 k14 k15 k16 k17 k17b k18 k19 k20 k21 k22 k23 k23b k24 k24b k24c k25 k26 k27 k28
theorem said : Rows.FnUnfoldQuietSaid :=
  OpenClaim.holds_of_cond 3 Tryd.f3 rfl rfl rfl rfl rfl rfl rfl ⟨rfl, rfl, rfl, rfl, rfl⟩ rfl rfl rfl rfl rfl (by kernel_rfl) Tryd.func3 closed
    (of_decide_eq_true (by kernel_rfl)) (by unfold Func.isWrapper; first | (rw [if_pos (by decide +kernel)]; kernel_rfl) | (rw [if_neg (by decide +kernel)]; exact ⟨rfl, rfl⟩))
    (fun os started H enc _ F => by rw [OpenClaim.pre_eq_preRow]; exact lifted os started H enc F)
theorem plain (f : FuncId) (fn : Func) (hf : Tryd.pinned.checked.prog.funcNamed "loop.example/packetfilter/laws.FnUnfoldQuiet" = some f) (hfn : Tryd.pinned.checked.prog.funcs[f]? = some fn) :
    false = Tryd.pinned.checked.prog.looks [] ∧ ∀ (j : Nat) t, fn.params[j]? = some t → Tryd.pinned.checked.prog.wantsStandIn t = false := by
  obtain rfl : f = 3 := Option.some.inj ((show Tryd.prog.funcNamed "loop.example/packetfilter/laws.FnUnfoldQuiet" = some 3 by kernel_rfl).symm.trans hf) |>.symm
  obtain rfl : fn = Tryd.f3 := (Option.some.inj (Tryd.func3.symm.trans hfn)).symm
  refine ⟨by kernel_rfl, fun j t ht => ?_⟩
  have hm := Array.mem_of_getElem? ht
  have hall : (Tryd.f3.params.toList.all fun t => !Tryd.prog.wantsStandIn t) = true := by kernel_rfl
  have := List.all_eq_true.1 hall t (Array.mem_toList_iff.2 hm)
  exact (show Tryd.prog.wantsStandIn t = false by simpa using this)
theorem card : Rows.FnUnfoldQuietCardSaid :=
  Claim7.holds_tied_plain_at .later [] _ _ _ _ said (fun _ h => by cases h) (by kernel_rfl) (fun _ h => by cases h) fnUnfoldQuiet_row_tie rfl ⟨rfl, rfl⟩ (by kernel_rfl) rfl plain (by kernel_rfl)
end CFnUnfoldQuiet
end Go.Proofs.YtfcbbahlhjdefaaDoor
