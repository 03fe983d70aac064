/- FnExactUnfold answers true at every ruleset: the program's Unfold returns what the reference's returns, changes no argument and shares no memory.
   No condition. -/
import Derived.Test.YtfcbbahlhjdefaaGreatDoorOpenR
import Derived.Test.YtfcbbahlhjdefaaGreatDoorOpenS
import Derived.Test.YtfcbbahlhjdefaaGreatDoorLUf
import Derived.Test.YtfcbbahlhjdefaaGreatDoorCards
import Derived.Test.YtfcbbahlhjdefaaGreatDoorTie
import Derived.SevenTiedAt
namespace Go.Proofs.YtfcbbahlhjdefaaGreatDoor
open Go.ChangeShapes Go.WideShapes Go.ChangeAt Go.RowKit
set_option maxRecDepth 100000
namespace CFnExactUnfold
set_option maxHeartbeats 400000 in
theorem contract (H : Type) (enc : TypeId × Value → H) (W : World) (base : Nat) (args : Array Value) (ds gs : List (DataW H)) (before : List MemPlace)
    (hval : ∀ (j : Nat) t v, Tryz.f4.params[j]? = some t → args[j]? = some v → Value.okWide Tryz.prog W .any base t v)
    (hW : DataW.Whole enc Tryz.prog Tryz.f4.params.toList Rows.fnExactUnfoldSpec.vars false W args.toList ds gs before) (hL : laidMetH Tryz.prog Rows.fnExactUnfoldRow.laid W) :
    Calls Tryz.prog 4 args W fun e W' => ∃ v, e = .returned v ∧ Rows.fnExactUnfoldSpec.post enc Tryz.prog Tryz.f4 false true false false W args v W' := by
  have hW' := hW
  obtain ⟨p, q, hA0, hV, rfl, hfz, hnd⟩ := hW
  have hA : DataW.TrodAll enc Tryz.prog W 0 (fun _ => true) true Tryz.f4.params.toList args.toList ds p := hA0
  rw [Tryz.params4] at hA hval
  obtain ⟨v0, vs0, d0, ds0, p0, q0, ha0, rfl, rfl, h0, r0⟩ := trodAll_cons hA
  obtain ⟨rfl, rfl, rfl⟩ := trodAll_nil r0
  obtain rfl : args = #[v0] := by cases args; simp_all
  obtain ⟨g, t, cs, fuel, dg, pg, rfl, _, _, _, _, _⟩ := trodVars_one hV
  have ht : Tab W := tab_of_laid hL
  obtain ⟨u, c, cs, rfl, hs⟩ := open_ruleset (hval 0 _ v0 rfl rfl) h0
  refine (law_FnExactUnfold cs c u W hs ht).mono fun e W' ⟨he, hb⟩ => ⟨_, he, law_post rfl (by kernel_rfl) (by kernel_rfl) hW' rfl hb⟩
theorem laid_met (os : Os) : laidMet Tryz.prog Rows.fnExactUnfoldRow.laid ((laidWorld os).forCall (fun _ _ => 0) ⟨#[], #[.agg #[.slice none 0 0, .bool false]], []⟩).memory :=
  laidMet_of_run' 8 (by kernel_rfl) (by kernel_rfl)
theorem reads (os : Os) {H : Type} (enc : TypeId × Value → H) : ∃ places, DataW.whole enc Tryz.prog ((laidWorld os).forCall (fun _ _ => 0) ⟨#[], #[.agg #[.slice none 0 0, .bool false]], []⟩).memory Tryz.f4.params.toList Rows.fnExactUnfoldSpec.vars false #[.agg #[.slice none 0 0, .bool false]].toList 8 = some ([.agg [.nil, .lit (.bool false)]], [Rows.laid_loop_example_packetfilter_impl_fieldShapes], places) :=
  ⟨[.cell 0 0, .cell 0 1, .cell 0 2, .cell 0 3, .cell 0 4, .cell 0 5, .cell 0 6, .cell 0 7], by kernel_rfl⟩
set_option maxRecDepth 100000 in
theorem lifted (os : Os) (started : os.Started) (H : Type) (enc : TypeId × Value → H) (F : Stop.Interp) :
    ReturnsInHanded {} Tryz.checked os 4 .any ((OpenSpec.ofChange Rows.fnExactUnfoldSpec).preRow enc Tryz.prog Tryz.f4 Rows.fnExactUnfoldRow.domain false Rows.fnExactUnfoldRow.laid) (((OpenSpec.ofChange Rows.fnExactUnfoldSpec).at F).post enc Tryz.prog Tryz.f4 false true false false) := by
  obtain ⟨places, hx⟩ := reads os enc
  refine returnsInHanded_of_row (C := Tryz.checked) (s := OpenSpec.ofChange Rows.fnExactUnfoldSpec) own started (by kernel_rfl) Tryz.func4
    (witness_row_at (enc := enc) (C := Tryz.checked) false (laidWorld os) #[.agg #[.slice none 0 0, .bool false]] rfl (by kernel_rfl) (by kernel_rfl) (by kernel_rfl)
      (OpenSpec.preRow_of_cond 8 hx (by kernel_rfl) (fun k hk => by cases hk) (by kernel_rfl) (laid_met os))) ?_
  intro W base args ds gs before hval hW _ _ _ hL _ _
  exact contract H enc W base args ds gs before hval hW hL
theorem k0 : laidOutB Tryz.pinned.checked.prog = true ∧ mapsRowed Tryz.pinned.checked.prog = true ∧ Tryz.pinned.checked.prog.plainKeys = true := ClosedOfChecked.closed_of_checked Tryz.pinned.checked (by kernel_rfl) (by kernel_rfl) (by kernel_rfl)
theorem k1 : Rows.fnExactUnfoldRow.wf (OpenSpec.ofChange Rows.fnExactUnfoldSpec) = true := by kernel_rfl
theorem k4 : Tryz.f4.params.all (Tryz.pinned.checked.prog.readableRec ·) = true := by kernel_rfl
theorem k5 : namedTie Tryz.pinned.checked.prog Rows.fnExactUnfoldRow.named Rows.fnExactUnfoldSpec.vars = true := by kernel_rfl
theorem k6 : (Rows.fnExactUnfoldRow.stops == []) = true := by kernel_rfl
theorem k7 : (Tryz.pinned.checked.prog.stops == []) = true := by kernel_rfl
theorem k8 : (Rows.fnExactUnfoldRow.knobs == []) = true := by kernel_rfl
theorem k9 : (Tryz.pinned.checked.prog.stopKnobs == []) = true := by kernel_rfl
theorem k10 : (Rows.fnExactUnfoldRow.inPlace == Tryz.pinned.checked.prog.inPlace 4) = true := by kernel_rfl
theorem k11 : (Rows.fnExactUnfoldRow.unfollowed == Tryz.pinned.checked.prog.unfollowed 4) = true := by kernel_rfl
theorem k12 : (Rows.fnExactUnfoldRow.recurses == Tryz.pinned.checked.prog.recurses 4) = true := by kernel_rfl
theorem k13 : (Rows.fnExactUnfoldRow.named == Tryz.pinned.checked.prog.varsNamed 4) = true := by kernel_rfl
theorem k14 : (Rows.fnExactUnfoldRow.maps == (Tryz.f4.params.toList ++ Rows.fnExactUnfoldSpec.plain.varTypes Tryz.pinned.checked.prog).any (Tryz.pinned.checked.prog.mapsRec ·)) = true := by kernel_rfl
theorem k15 : (Rows.fnExactUnfoldRow.ifaces == (Tryz.f4.params.toList ++ Rows.fnExactUnfoldSpec.plain.varTypes Tryz.pinned.checked.prog).any (Tryz.pinned.checked.prog.ifacesRec ·)) = true := by kernel_rfl
theorem k16 : (Rows.fnExactUnfoldRow.mapsOut == Tryz.pinned.checked.prog.mapsAmong Tryz.f4.resultTypes.toList) = true := by kernel_rfl
theorem k17 : (Rows.fnExactUnfoldRow.loops == (Tryz.f4.params.toList ++ Rows.fnExactUnfoldSpec.plain.varTypes Tryz.pinned.checked.prog).any (Tryz.pinned.checked.prog.loopsFrom ·)) = true := by kernel_rfl
theorem k17b : (Rows.fnExactUnfoldRow.wideKeys == (Tryz.f4.params.toList ++ Rows.fnExactUnfoldSpec.plain.varTypes Tryz.pinned.checked.prog ++ Tryz.f4.resultTypes.toList).any (Tryz.pinned.checked.prog.wideKeysFrom ·)) = true := by kernel_rfl
theorem k18 : Rows.fnExactUnfoldSpec.vars.all (Tryz.pinned.checked.prog.varReadable ·) = true := by kernel_rfl
theorem k19 : Tryz.f4.resultTypes.all (fun t => Tryz.pinned.checked.prog.readableRec t && decide (t < Tryz.pinned.checked.prog.types.size)) = true := by kernel_rfl
theorem k20 : (Rows.fnExactUnfoldRow.ifacesOut == Tryz.f4.resultTypes.toList.any (Tryz.pinned.checked.prog.ifacesRec ·)) = true := by kernel_rfl
theorem k21 : (Rows.fnExactUnfoldRow.loopsOut == Tryz.f4.resultTypes.toList.any (Tryz.pinned.checked.prog.loopsFrom ·)) = true := by kernel_rfl
theorem k23 : Rows.fnExactUnfoldRow.shortTexts.isNone = true := by kernel_rfl
theorem k23b : Tryz.pinned.checked.prog.stopsHeard = true := by kernel_rfl
theorem k24 : Tryz.pinned.checked.prog.mayEnter = true := by kernel_rfl
theorem k24b : (Rows.fnExactUnfoldRow.lifted == Tryz.pinned.checked.prog.liftsFinal) = true := by kernel_rfl
theorem k24c : (Tryz.pinned.checked.prog.make == some Rows.fnExactUnfoldRow.make) = true := by kernel_rfl
theorem k25 : (Rows.fnExactUnfoldRow.kinds == (if Rows.fnExactUnfoldRow.domain.isEmpty then [] else Tryz.f4.params.toList.map fun t => match Tryz.pinned.checked.prog.underlying t with | some (.int k) => some k | _ => none)) = true := by kernel_rfl
theorem k26 : (Rows.fnExactUnfoldRow.pinned == Rows.fnExactUnfoldRow.pinnedBy) = true := by kernel_rfl
theorem k27 : (Rows.fnExactUnfoldRow.veiled == (Tryz.f4.params.toList ++ Rows.fnExactUnfoldSpec.plain.varTypes Tryz.pinned.checked.prog ++ Tryz.f4.resultTypes.toList).any (Tryz.pinned.checked.prog.veiledRec ·)) = true := by kernel_rfl
theorem k28 : Rows.fnExactUnfoldRow.veiledFits Tryz.pinned.checked.prog Tryz.f4.params.toList (Tryz.f4.params.toList ++ Rows.fnExactUnfoldSpec.plain.varTypes Tryz.pinned.checked.prog ++ Tryz.f4.resultTypes.toList) = true := by kernel_rfl
theorem k22 : (Rows.fnExactUnfoldRow.plainKeys == Tryz.pinned.checked.prog.plainKeys) = true := by rw [k0.2.2]; rfl
theorem closed : joinedFacts Tryz.pinned.checked.prog 4 Tryz.f4 Rows.fnExactUnfoldSpec Rows.fnExactUnfoldRow = true := joined_of k1 k0.1 k0.2.1 k4 k5 k6 k7 k8 k9 k10 k11 k12 k13 k14 k15 k16 k17 k17b k18 k19 k20 k21 k22 k23 k23b k24 k24b k24c k25 k26 k27 k28
theorem said : Rows.FnExactUnfoldSaid :=
  OpenClaim.holds_of_cond 4 Tryz.f4 rfl rfl rfl rfl rfl rfl rfl ⟨rfl, rfl, rfl, rfl, rfl⟩ rfl rfl rfl rfl rfl (by kernel_rfl) Tryz.func4 closed
    (of_decide_eq_true (by kernel_rfl)) (by unfold Func.isWrapper; first | (rw [if_pos (by decide +kernel)]; kernel_rfl) | (rw [if_neg (by decide +kernel)]; exact ⟨rfl, rfl⟩))
    (fun os started H enc _ F => by rw [OpenClaim.pre_eq_preRow]; exact lifted os started H enc F)
theorem plain (f : FuncId) (fn : Func) (hf : Tryz.pinned.checked.prog.funcNamed "loop.example/packetfilter/laws.FnExactUnfold" = some f) (hfn : Tryz.pinned.checked.prog.funcs[f]? = some fn) :
    false = Tryz.pinned.checked.prog.looks [] ∧ ∀ (j : Nat) t, fn.params[j]? = some t → Tryz.pinned.checked.prog.wantsStandIn t = false := by
  obtain rfl : f = 4 := Option.some.inj ((show Tryz.prog.funcNamed "loop.example/packetfilter/laws.FnExactUnfold" = some 4 by kernel_rfl).symm.trans hf) |>.symm
  obtain rfl : fn = Tryz.f4 := (Option.some.inj (Tryz.func4.symm.trans hfn)).symm
  refine ⟨by kernel_rfl, fun j t ht => ?_⟩
  have hm := Array.mem_of_getElem? ht
  have hall : (Tryz.f4.params.toList.all fun t => !Tryz.prog.wantsStandIn t) = true := by kernel_rfl
  have := List.all_eq_true.1 hall t (Array.mem_toList_iff.2 hm)
  exact (show Tryz.prog.wantsStandIn t = false by simpa using this)
theorem card : Rows.FnExactUnfoldCardSaid :=
  Claim7.holds_tied_plain_at .later [] _ _ _ _ said (fun _ h => by cases h) (by kernel_rfl) (fun _ h => by cases h) fnExactUnfold_row_tie rfl ⟨rfl, rfl⟩ (by kernel_rfl) rfl plain (by kernel_rfl)
end CFnExactUnfold
end Go.Proofs.YtfcbbahlhjdefaaGreatDoor
