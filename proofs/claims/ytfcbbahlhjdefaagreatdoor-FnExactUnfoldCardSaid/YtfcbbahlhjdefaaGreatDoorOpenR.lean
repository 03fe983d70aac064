/- How an argument that is a ruleset is opened. -/
import Derived.Test.YtfcbbahlhjdefaaGreatDoorOpenF
import Derived.Test.YtfcbbahlhjdefaaGreatDoorRsH
namespace Go.Proofs.YtfcbbahlhjdefaaGreatDoor
open Go.ChangeShapes Go.WideShapes Go.ChangeAt Go.RowKit Go.Joins Go.Deep
set_option maxRecDepth 100000 in
theorem cellsLTest : Tryz.prog.cellsOf 213 = 4 := by kernel_rfl
set_option maxRecDepth 100000 in
theorem cellsLTestS : Tryz.prog.cellsOf 178 = 1 := by kernel_rfl
set_option maxRecDepth 100000 in
theorem cellsLRule : Tryz.prog.cellsOf 180 = 3 := by kernel_rfl
set_option maxRecDepth 100000 in
theorem cellsLRuleS : Tryz.prog.cellsOf 134 = 1 := by kernel_rfl
set_option maxRecDepth 100000 in
theorem cellsLRuleSS : Tryz.prog.cellsOf 49 = 1 := by kernel_rfl
set_option maxRecDepth 100000 in
theorem cellsLRuleset : Tryz.prog.cellsOf 51 = 2 := by kernel_rfl
section
variable {H : Type} {en : TypeId × Value → H} {W : World}
set_option maxRecDepth 100000 in
theorem test_cells (n : Nat) (cs : List Value) (x : DataW H × List MemPlace) (h : DataW.trod en Tryz.prog W 0 (fun _ => true) true n 213 cs = some x) : ∃ y : Te, cs = Te.enc y ∧ True := by
  obtain ⟨xs, k, _, _, hl0, hxl, hf⟩ := DataW.trod_struct Tryz.underlying213 h
  rw [cellsLTest] at hl0
  match cs, hl0 with
  | [v0, v1, v2, v3], _ =>
    have g0 := hf 0 _ rfl
    have g1 := hf 1 _ rfl
    have g2 := hf 2 _ rfl
    have g3 := hf 3 _ rfl
    match xs, hxl with
    | [z0, z1, z2, z3], _ =>
      simp [cellsInt, cellsBool] at g0 g1 g2 g3
      obtain ⟨a, e0, _⟩ := DataW.trod_int Tryz.underlying3 g0
      obtain ⟨b, e1, _⟩ := DataW.trod_int Tryz.underlying3 g1
      obtain ⟨c, e2, _⟩ := DataW.trod_int Tryz.underlying3 g2
      obtain ⟨d, e3, _⟩ := DataW.trod_bool Tryz.underlying4 g3
      simp only [List.cons.injEq, and_true] at e0 e1 e2 e3
      subst e0 e1 e2 e3
      exact ⟨⟨a, b, c, d⟩, rfl, trivial⟩
set_option maxRecDepth 100000 in
theorem testS_cells (n : Nat) (cs : List Value) (x : DataW H × List MemPlace) (h : DataW.trod en Tryz.prog W 0 (fun _ => true) true n 178 cs = some x) : ∃ v : Value, cs = enc1 v ∧ ∃ xs, Tss 0 W v xs := by
  obtain ⟨v, rfl, xs, hs, _⟩ := open_sl2 (sz := 4) (enc := Te.enc) (by omega) (fun _ => rfl) Tryz.underlying178 cellsLTest test_cells h
  exact ⟨v, rfl, xs, SlFr.of hs⟩
set_option maxRecDepth 100000 in
theorem rule_cells (n : Nat) (cs : List Value) (x : DataW H × List MemPlace) (h : DataW.trod en Tryz.prog W 0 (fun _ => true) true n 180 cs = some x) : ∃ r : RR, cs = RR.enc r ∧ ∃ ts, Tss 0 W r.s ts := by
  obtain ⟨xs, k, _, _, hl0, hxl, hf⟩ := DataW.trod_struct Tryz.underlying180 h
  rw [cellsLRule] at hl0
  match cs, hl0 with
  | [v0, v1, v2], _ =>
    have g0 := hf 0 _ rfl
    have g1 := hf 1 _ rfl
    have g2 := hf 2 _ rfl
    match xs, hxl with
    | [z0, z1, z2], _ =>
      simp [cellsInt, cellsLTestS] at g0 g1 g2
      obtain ⟨v, e0, ts, ht⟩ := testS_cells _ _ _ g0
      obtain ⟨a, e1, _⟩ := DataW.trod_int Tryz.underlying3 g1
      obtain ⟨b, e2, _⟩ := DataW.trod_int Tryz.underlying3 g2
      simp only [List.cons.injEq, and_true] at e0 e1 e2
      subst e0 e1 e2
      exact ⟨⟨v0, a, b⟩, rfl, ts, ht⟩
set_option maxRecDepth 100000 in
theorem ruleS_cells (n : Nat) (cs : List Value) (x : DataW H × List MemPlace) (h : DataW.trod en Tryz.prog W 0 (fun _ => true) true n 134 cs = some x) : ∃ v : Value, cs = enc1 v ∧ ∃ rs, Rus 0 W v rs := by
  obtain ⟨v, rfl, qs, hs, hx⟩ := open_sl2 (sz := 3) (enc := RR.enc) (by omega) (fun _ => rfl) Tryz.underlying134 cellsLRule rule_cells h
  obtain ⟨rs, hl, hrs⟩ := all2_of (R := RR.ok 0 W) qs (fun q hq => let ⟨ts, ht⟩ := hx q hq; ⟨⟨ts, q.act, q.ch⟩, ht, rfl, rfl⟩)
  exact ⟨v, rfl, rs, qs, SlFr.of hs, hl, hrs⟩
set_option maxRecDepth 100000 in
theorem ruleSS_cells (n : Nat) (cs : List Value) (x : DataW H × List MemPlace) (h : DataW.trod en Tryz.prog W 0 (fun _ => true) true n 49 cs = some x) : ∃ v : Value, cs = enc1 v ∧ ∃ rs, Rss 0 W v rs := by
  obtain ⟨v, rfl, vs, hs, hx⟩ := open_sl2 (sz := 1) (enc := enc1) (by omega) (fun _ => rfl) Tryz.underlying49 cellsLRuleS ruleS_cells h
  obtain ⟨b, hb⟩ := all2_of vs hx
  exact ⟨v, rfl, b, vs, SlFr.of hs, hb⟩
set_option maxRecDepth 100000 in
theorem open_ruleset {r : Reach} {b0 : Nat} {v : Value} {d : DataW H} {p : List MemPlace}
    (hw : Value.okWide Tryz.prog W r b0 51 v) (h : DataW.Trod en Tryz.prog W 0 (fun _ => true) true 51 v d p) : ∃ (u : Value) (c : Bool) (cs : List (List Ru)), v = .agg #[u, .bool c] ∧ Rss 0 W u cs := by
  obtain ⟨cs, rfl, hc⟩ := okWide_struct Tryz.underlying51 hw
  rw [cellsLRuleset] at hc
  obtain ⟨u0, u1, rfl⟩ : ∃ u0 u1, cs = #[u0, u1] := by
    match cs, hc with
    | ⟨[u0, u1]⟩, _ => exact ⟨u0, u1, rfl⟩
  obtain ⟨fuel, hf⟩ := h
  obtain ⟨y0, y1, m, _, hl, h0, h1⟩ := trod_struct2 Tryz.underlying51 hf
  rw [cellsLRuleSS] at h0
  rw [cellsBool] at h1
  simp [Value.cells] at h0 h1
  obtain ⟨v', e0, rs, hr⟩ := ruleSS_cells _ _ _ h0
  obtain ⟨c, e1, _⟩ := DataW.trod_bool Tryz.underlying4 h1
  simp only [List.cons.injEq, and_true] at e0 e1
  subst e0 e1
  exact ⟨u0, c, rs, rfl, hr⟩
end
end Go.Proofs.YtfcbbahlhjdefaaGreatDoor
