/- How an argument that is a word is opened. -/
import Derived.Test.YtibanpeiigbofaaDoorOpenS
namespace Go.Proofs.YtibanpeiigbofaaDoor
open Go.ChangeShapes Go.WideShapes Go.ChangeAt Go.RowKit Go.Joins Go.Deep
set_option maxRecDepth 100000 in
theorem open_b {H : Type} {en : TypeId × Value → H} {W : World} {b0 : Nat} {r : Reach} {v : Value} {d : DataW H} {p : List MemPlace}
    (hv : Value.okWide Tryd.prog W r b0 4 v) (h : DataW.Trod en Tryd.prog W 0 (fun _ => true) true 4 v d p) : ∃ q : Bool, v = .bool q := by
  obtain ⟨q, rfl, _⟩ := open_bool Tryd.underlying4 hv h
  exact ⟨q, rfl⟩
end Go.Proofs.YtibanpeiigbofaaDoor
