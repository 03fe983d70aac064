/- How an argument that is a list of packets, or of numbers, is opened. -/
import Derived.Test.YtkcnbkkgpampaaaDoorOpenS
import Derived.Test.YtkcnbkkgpampaaaDoorHtP
namespace Go.Proofs.YtkcnbkkgpampaaaDoor
open Go.ChangeShapes Go.WideShapes Go.ChangeAt Go.RowKit Go.Joins Go.Deep
set_option maxRecDepth 100000 in
theorem cellsLPacket2 : Tryd.prog.cellsOf 30 = 4 := by kernel_rfl
set_option maxRecDepth 100000 in
/-- One packet's cells. -/
theorem packet_cells {H : Type} {en : TypeId × Value → H} {W : World} (n : Nat) (cs : List Value) (x : DataW H × List MemPlace) (h : DataW.trod en Tryd.prog W 0 (fun _ => true) true n 30 cs = some x) : ∃ y : Pk, cs = Pk.enc y := by
  obtain ⟨xs, k, _, _, hl0, hxl, hf⟩ := DataW.trod_struct Tryd.underlying30 h
  rw [cellsLPacket2] at hl0
  match cs, hl0 with
  | [v0, v1, v2, v3], _ =>
    have g0 := hf 0 _ rfl
    have g1 := hf 1 _ rfl
    have g2 := hf 2 _ rfl
    have g3 := hf 3 _ rfl
    match xs, hxl with
    | [z0, z1, z2, z3], _ =>
      simp [cellsInt] at g0 g1 g2 g3
      obtain ⟨a, e0, _⟩ := DataW.trod_int Tryd.underlying3 g0
      obtain ⟨b, e1, _⟩ := DataW.trod_int Tryd.underlying3 g1
      obtain ⟨c, e2, _⟩ := DataW.trod_int Tryd.underlying3 g2
      obtain ⟨d, e3, _⟩ := DataW.trod_int Tryd.underlying3 g3
      simp only [List.cons.injEq, and_true] at e0 e1 e2 e3
      subst e0 e1 e2 e3
      exact ⟨⟨a, b, c, d⟩, rfl⟩
set_option maxRecDepth 100000 in
theorem open_packets {H : Type} {en : TypeId × Value → H} {W : World} {b0 : Nat} {r : Reach} {v : Value} {d : DataW H} {p : List MemPlace}
    (hv : Value.okWide Tryd.prog W r b0 59 v) (h : DataW.Trod en Tryd.prog W 0 (fun _ => true) true 59 v d p) : ∃ xs : List Pk, Pks W v xs :=
  open_sl (sz := 4) (enc := Pk.enc) (by omega) (fun _ => rfl) Tryd.underlying59 cellsLPacket2 packet_cells hv h
set_option maxRecDepth 100000 in
theorem cellsInt2 : Tryd.prog.cellsOf 3 = 1 := by kernel_rfl
set_option maxRecDepth 100000 in
theorem int_cells {H : Type} {en : TypeId × Value → H} {W : World} (n : Nat) (cs : List Value) (x : DataW H × List MemPlace) (h : DataW.trod en Tryd.prog W 0 (fun _ => true) true n 3 cs = some x) : ∃ y : Int, cs = encI y := by
  obtain ⟨a, e0, _⟩ := DataW.trod_int Tryd.underlying3 h
  exact ⟨a, e0⟩
set_option maxRecDepth 100000 in
theorem open_numbers {H : Type} {en : TypeId × Value → H} {W : World} {b0 : Nat} {r : Reach} {v : Value} {d : DataW H} {p : List MemPlace}
    (hv : Value.okWide Tryd.prog W r b0 61 v) (h : DataW.Trod en Tryd.prog W 0 (fun _ => true) true 61 v d p) : ∃ xs : List Int, Ins W v xs :=
  open_sl (sz := 1) (enc := encI) (by omega) (fun _ => rfl) Tryd.underlying61 cellsInt2 int_cells hv h
end Go.Proofs.YtkcnbkkgpampaaaDoor
