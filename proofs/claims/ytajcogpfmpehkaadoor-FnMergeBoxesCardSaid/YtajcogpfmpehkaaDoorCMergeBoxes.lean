/- FnMergeBoxes answers true at all codes: at the two drawn boxes the program's MergeBoxes returns what the reference's returns; the merged box has the probed packet just where one of the two has it, both are within it, and nothing of it lies outside the two. No condition. -/
import Derived.Test.YtajcogpfmpehkaaDoorOpenC
import Derived.Test.YtajcogpfmpehkaaDoorLdMB
import Derived.Test.YtajcogpfmpehkaaDoorCards
import Derived.Test.YtajcogpfmpehkaaDoorTie
import Derived.SevenTiedAt
namespace Go.Proofs.YtajcogpfmpehkaaDoor
open Go.ChangeShapes Go.WideShapes Go.ChangeAt Go.RowKit
set_option maxRecDepth 100000
namespace CFnMergeBoxes
set_option maxHeartbeats 400000 in
theorem contract (H : Type) (enc : TypeId × Value → H) (W : World) (base : Nat) (args : Array Value) (ds gs : List (DataW H)) (before : List MemPlace)
    (hval : ∀ (j : Nat) t v, Tryd.f5.params[j]? = some t → args[j]? = some v → Value.okWide Tryd.prog W .any base t v)
    (hW : DataW.Whole enc Tryd.prog Tryd.f5.params.toList Rows.fnMergeBoxesSpec.vars false W args.toList ds gs before) (hL : laidMetH Tryd.prog Rows.fnMergeBoxesRow.laid W) :
    Calls Tryd.prog 5 args W fun e W' => ∃ v, e = .returned v ∧ Rows.fnMergeBoxesSpec.post enc Tryd.prog Tryd.f5 false true false false W args v W' := by
  have hW' := hW
  obtain ⟨p, q, hA0, hV, rfl, hfz, hnd⟩ := hW
  have hA : DataW.TrodAll enc Tryd.prog W 0 (fun _ => true) true Tryd.f5.params.toList args.toList ds p := hA0
  rw [Tryd.params5] at hA hval
  obtain ⟨v0, vs0, d0, ds0, p0, q0, ha0, rfl, rfl, h0, r0⟩ := trodAll_cons hA
  obtain ⟨v1, vs1, d1, ds1, p1, q1, ha1, rfl, rfl, h1, r1⟩ := trodAll_cons r0
  obtain ⟨rfl, rfl, rfl⟩ := trodAll_nil r1
  obtain rfl : args = #[v0, v1] := by cases args; simp_all
  obtain ⟨g, t, cs, fuel, dg, pg, rfl, _, _, _, _, _⟩ := trodVars_one hV
  have ht : Tab W := tab_of_laid hL
  obtain ⟨bs, hs⟩ := open_code (hval 0 _ v0 rfl rfl) h0
  obtain ⟨bs2, hs2⟩ := open_code (hval 1 _ v1 rfl rfl) h1
  refine (law_FnMergeBoxes bs bs2 v0 v1 W hs hs2 ht).mono fun e W' ⟨he, hb⟩ => ⟨_, he, law_post rfl (by kernel_rfl) (by kernel_rfl) hW' rfl hb⟩
theorem laid_met (os : Os) : laidMet Tryd.prog Rows.fnMergeBoxesRow.laid ((laidWorld os).forCall (fun _ _ => 0) ⟨#[], #[.slice none 0 0, .slice none 0 0], []⟩).memory :=
  laidMet_of_run' 8 (by kernel_rfl) (by kernel_rfl)
theorem reads (os : Os) {H : Type} (enc : TypeId × Value → H) : ∃ places, DataW.whole enc Tryd.prog ((laidWorld os).forCall (fun _ _ => 0) ⟨#[], #[.slice none 0 0, .slice none 0 0], []⟩).memory Tryd.f5.params.toList Rows.fnMergeBoxesSpec.vars false #[.slice none 0 0, .slice none 0 0].toList 8 = some ([.nil, .nil], [Rows.laid_loop_example_packetfilter_impl_fieldShapes], places) :=
  ⟨[.cell 0 0, .cell 0 1, .cell 0 2, .cell 0 3, .cell 0 4, .cell 0 5, .cell 0 6, .cell 0 7], by kernel_rfl⟩
set_option maxRecDepth 100000 in
theorem lifted (os : Os) (started : os.Started) (H : Type) (enc : TypeId × Value → H) (F : Stop.Interp) :
    ReturnsInHanded {} Tryd.checked os 5 .any ((OpenSpec.ofChange Rows.fnMergeBoxesSpec).preRow enc Tryd.prog Tryd.f5 Rows.fnMergeBoxesRow.domain false Rows.fnMergeBoxesRow.laid) (((OpenSpec.ofChange Rows.fnMergeBoxesSpec).at F).post enc Tryd.prog Tryd.f5 false true false false) := by
  obtain ⟨places, hx⟩ := reads os enc
  refine returnsInHanded_of_row (C := Tryd.checked) (s := OpenSpec.ofChange Rows.fnMergeBoxesSpec) own started (by kernel_rfl) Tryd.func5
    (witness_row_at (enc := enc) (C := Tryd.checked) false (laidWorld os) #[.slice none 0 0, .slice none 0 0] rfl (by kernel_rfl) (by kernel_rfl) (by kernel_rfl)
      (OpenSpec.preRow_of_cond 8 hx (by kernel_rfl) (fun k hk => by cases hk) (by kernel_rfl) (laid_met os))) ?_
  intro W base args ds gs before hval hW _ _ _ hL _ _
  exact contract H enc W base args ds gs before hval hW hL
theorem k0 : laidOutB Tryd.pinned.checked.prog = true ∧ mapsRowed Tryd.pinned.checked.prog = true ∧ Tryd.pinned.checked.prog.plainKeys = true := ClosedOfChecked.closed_of_checked Tryd.pinned.checked (by kernel_rfl) (by kernel_rfl) (by kernel_rfl)
theorem k1 : Rows.fnMergeBoxesRow.wf (OpenSpec.ofChange Rows.fnMergeBoxesSpec) = true := by kernel_rfl
theorem k4 : Tryd.f5.params.all (Tryd.pinned.checked.prog.readableRec ·) = true := by kernel_rfl
theorem k5 : namedTie Tryd.pinned.checked.prog Rows.fnMergeBoxesRow.named Rows.fnMergeBoxesSpec.vars = true := by kernel_rfl
theorem k6 : (Rows.fnMergeBoxesRow.stops == []) = true := by kernel_rfl
theorem k7 : (Tryd.pinned.checked.prog.stops == []) = true := by kernel_rfl
theorem k8 : (Rows.fnMergeBoxesRow.knobs == []) = true := by kernel_rfl
theorem k9 : (Tryd.pinned.checked.prog.stopKnobs == []) = true := by kernel_rfl
theorem k10 : (Rows.fnMergeBoxesRow.inPlace == Tryd.pinned.checked.prog.inPlace 5) = true := by kernel_rfl
theorem k11 : (Rows.fnMergeBoxesRow.unfollowed == Tryd.pinned.checked.prog.unfollowed 5) = true := by kernel_rfl
theorem k12 : (Rows.fnMergeBoxesRow.recurses == Tryd.pinned.checked.prog.recurses 5) = true := by kernel_rfl
theorem k13 : (Rows.fnMergeBoxesRow.named == Tryd.pinned.checked.prog.varsNamed 5) = true := by kernel_rfl
theorem k14 : (Rows.fnMergeBoxesRow.maps == (Tryd.f5.params.toList ++ Rows.fnMergeBoxesSpec.plain.varTypes Tryd.pinned.checked.prog).any (Tryd.pinned.checked.prog.mapsRec ·)) = true := by kernel_rfl
theorem k15 : (Rows.fnMergeBoxesRow.ifaces == (Tryd.f5.params.toList ++ Rows.fnMergeBoxesSpec.plain.varTypes Tryd.pinned.checked.prog).any (Tryd.pinned.checked.prog.ifacesRec ·)) = true := by kernel_rfl
theorem k16 : (Rows.fnMergeBoxesRow.mapsOut == Tryd.pinned.checked.prog.mapsAmong Tryd.f5.resultTypes.toList) = true := by kernel_rfl
theorem k17 : (Rows.fnMergeBoxesRow.loops == (Tryd.f5.params.toList ++ Rows.fnMergeBoxesSpec.plain.varTypes Tryd.pinned.checked.prog).any (Tryd.pinned.checked.prog.loopsFrom ·)) = true := by kernel_rfl
theorem k17b : (Rows.fnMergeBoxesRow.wideKeys == (Tryd.f5.params.toList ++ Rows.fnMergeBoxesSpec.plain.varTypes Tryd.pinned.checked.prog ++ Tryd.f5.resultTypes.toList).any (Tryd.pinned.checked.prog.wideKeysFrom ·)) = true := by kernel_rfl
theorem k18 : Rows.fnMergeBoxesSpec.vars.all (Tryd.pinned.checked.prog.varReadable ·) = true := by kernel_rfl
theorem k19 : Tryd.f5.resultTypes.all (fun t => Tryd.pinned.checked.prog.readableRec t && decide (t < Tryd.pinned.checked.prog.types.size)) = true := by kernel_rfl
theorem k20 : (Rows.fnMergeBoxesRow.ifacesOut == Tryd.f5.resultTypes.toList.any (Tryd.pinned.checked.prog.ifacesRec ·)) = true := by kernel_rfl
theorem k21 : (Rows.fnMergeBoxesRow.loopsOut == Tryd.f5.resultTypes.toList.any (Tryd.pinned.checked.prog.loopsFrom ·)) = true := by kernel_rfl
theorem k23 : Rows.fnMergeBoxesRow.shortTexts.isNone = true := by kernel_rfl
theorem k23b : Tryd.pinned.checked.prog.stopsHeard = true := by kernel_rfl
theorem k24 : Tryd.pinned.checked.prog.mayEnter = true := by kernel_rfl
theorem k24b : (Rows.fnMergeBoxesRow.lifted == Tryd.pinned.checked.prog.liftsFinal) = true := by kernel_rfl
theorem k24c : (Tryd.pinned.checked.prog.make == some Rows.fnMergeBoxesRow.make) = true := by kernel_rfl
theorem k25 : (Rows.fnMergeBoxesRow.kinds == (if Rows.fnMergeBoxesRow.domain.isEmpty then [] else Tryd.f5.params.toList.map fun t => match Tryd.pinned.checked.prog.underlying t with | some (.int k) => some k | _ => none)) = true := by kernel_rfl
theorem k26 : (Rows.fnMergeBoxesRow.pinned == Rows.fnMergeBoxesRow.pinnedBy) = true := by kernel_rfl
theorem k27 : (Rows.fnMergeBoxesRow.veiled == (Tryd.f5.params.toList ++ Rows.fnMergeBoxesSpec.plain.varTypes Tryd.pinned.checked.prog ++ Tryd.f5.resultTypes.toList).any (Tryd.pinned.checked.prog.veiledRec ·)) = true := by kernel_rfl
theorem k28 : Rows.fnMergeBoxesRow.veiledFits Tryd.pinned.checked.prog Tryd.f5.params.toList (Tryd.f5.params.toList ++ Rows.fnMergeBoxesSpec.plain.varTypes Tryd.pinned.checked.prog ++ Tryd.f5.resultTypes.toList) = true := by kernel_rfl
theorem k22 : (Rows.fnMergeBoxesRow.plainKeys == Tryd.pinned.checked.prog.plainKeys) = true := by rw [k0.2.2]; rfl
theorem closed : joinedFacts Tryd.pinned.checked.prog 5 Tryd.f5 Rows.fnMergeBoxesSpec Rows.fnMergeBoxesRow = true := joined_of k1 k0.1 k0.2.1 k4 k5 k6 k7 k8 k9 k10 k11 k12 k13 k14 k15 k16 k17 k17b k18 k19 k20 k21 k22 k23 k23b k24 k24b k24c k25 k26 k27 k28
theorem said : Rows.FnMergeBoxesSaid :=
  OpenClaim.holds_of_cond 5 Tryd.f5 rfl rfl rfl rfl rfl rfl rfl ⟨rfl, rfl, rfl, rfl, rfl⟩ rfl rfl rfl rfl rfl (by kernel_rfl) Tryd.func5 closed
    (of_decide_eq_true (by kernel_rfl)) (by unfold Func.isWrapper; first | (rw [if_pos (by decide +kernel)]; kernel_rfl) | (rw [if_neg (by decide +kernel)]; exact ⟨rfl, rfl⟩))
    (fun os started H enc _ F => by rw [OpenClaim.pre_eq_preRow]; exact lifted os started H enc F)
theorem plain (f : FuncId) (fn : Func) (hf : Tryd.pinned.checked.prog.funcNamed "loop.example/packetfilter/laws.FnMergeBoxes" = some f) (hfn : Tryd.pinned.checked.prog.funcs[f]? = some fn) :
    false = Tryd.pinned.checked.prog.looks [] ∧ ∀ (j : Nat) t, fn.params[j]? = some t → Tryd.pinned.checked.prog.wantsStandIn t = false := by
  obtain rfl : f = 5 := Option.some.inj ((show Tryd.prog.funcNamed "loop.example/packetfilter/laws.FnMergeBoxes" = some 5 by kernel_rfl).symm.trans hf) |>.symm
  obtain rfl : fn = Tryd.f5 := (Option.some.inj (Tryd.func5.symm.trans hfn)).symm
  refine ⟨by kernel_rfl, fun j t ht => ?_⟩
  have hm := Array.mem_of_getElem? ht
  have hall : (Tryd.f5.params.toList.all fun t => !Tryd.prog.wantsStandIn t) = true := by kernel_rfl
  have := List.all_eq_true.1 hall t (Array.mem_toList_iff.2 hm)
  exact (show Tryd.prog.wantsStandIn t = false by simpa using this)
theorem card : Rows.FnMergeBoxesCardSaid :=
  Claim7.holds_tied_plain_at .later [] _ _ _ _ said (fun _ h => by cases h) (by kernel_rfl) (fun _ h => by cases h) fnMergeBoxes_row_tie rfl ⟨rfl, rfl⟩ (by kernel_rfl) rfl plain (by kernel_rfl)
end CFnMergeBoxes
end Go.Proofs.YtajcogpfmpehkaaDoor
