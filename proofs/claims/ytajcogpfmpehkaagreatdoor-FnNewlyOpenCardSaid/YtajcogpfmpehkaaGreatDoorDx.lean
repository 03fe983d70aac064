/- Draws of rules and a number. -/
import Derived.Test.YtajcogpfmpehkaaGreatDoorDxAJ
import Derived.Test.YtajcogpfmpehkaaGreatDoorDr
namespace Go.Proofs.YtajcogpfmpehkaaGreatDoor
open Go.RowKit
/-- The drawn rules that came of it, all else as before. -/
def FsD (w w' : World) (v : Value) (fs : List Ft) : Prop := FsO w.heap.size w' v fs ∧ fs.length ≤ 61 ∧ FtOk (fun n => n ≤ 4) fs ∧ Below w.heap.size w w'
theorem FsO.low {lo lo' : Nat} {w : World} {v : Value} {fs : List Ft} (h : FsO lo w v fs) (hl : lo' ≤ lo) : FsO lo' w v fs :=
  let ⟨rs, h1, h2⟩ := h; ⟨rs, OwnSl.mono h1 hl, h2.mono (fun _ _ h => ⟨h.1.mono hl, h.2⟩)⟩
def DrewLP (w : World) (e : Ending) (w' : World) : Prop := ∃ v fs n, e = .returned (.tuple #[v, .int .i64 n]) ∧ FsD w w' v fs ∧ -1 ≤ n ∧ n ≤ 61
end Go.Proofs.YtajcogpfmpehkaaGreatDoor
