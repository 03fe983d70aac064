/- Parts of all packets: both functions. -/
import Derived.Test.YtajcogpfmpehkaaDoorFdI
import Derived.Test.YtajcogpfmpehkaaDoorFnX
namespace Go.Proofs.YtajcogpfmpehkaaDoor
open Go.RowKit
theorem fpart_yes {fs R : List Ft} {r c : Bool} (h : fparts fs r = some R) : fpart fs r c = psel R c := by unfold fpart; rw [h]
/-- Rules in a list of the call's own under way; their boxes lie in no block of X. -/
def FtX (X : Nat → Prop) (lo : Nat) (w : World) (v : Value) (fs : List Ft) : Prop :=
  ∃ rs, OwnSl lo 34 2 RF.enc w v rs ∧ All2 (fun (r : RF) (f : Ft) => RwV (fun k => some k = v.ownBlock ∨ X k) w r.s f.box ∧ r.acc = f.acc) rs fs
theorem FtX.fts {X : Nat → Prop} {lo : Nat} {w : World} {v : Value} {fs : List Ft} (h : FtX X lo w v fs) : Fts 0 w v fs := by
  obtain ⟨rs, h1, h2⟩ := h
  exact ⟨rs, SlFr.mono (OwnSl.fr (sz := 2) (enc := RF.enc) (fun _ => rfl) h1) (Nat.zero_le _), h2.mono (fun _ _ g => ⟨g.1.rws, g.2⟩)⟩
theorem FtX.below {X : Nat → Prop} {lo : Nat} {w w' : World} {v : Value} {fs : List Ft} (h : FtX X lo w v fs) (hb : Below w.heap.size w w') : FtX X lo w' v fs := by
  obtain ⟨rs, h1, h2⟩ := h
  exact ⟨rs, OwnSl.kept h1 hb, h2.mono (fun _ _ g => ⟨g.1.below hb, g.2⟩)⟩
theorem FtX.lt {X : Nat → Prop} {lo : Nat} {w : World} {v : Value} {fs : List Ft} (h : FtX X lo w v fs) : ∀ z, v.ownBlock = some z → lo ≤ z ∧ z < w.heap.size := by
  obtain ⟨rs, h1, _⟩ := h
  exact fun z hz => World.ownsRow.lt h1 z hz
theorem FtX.form {X : Nat → Prop} {lo : Nat} {w : World} {v : Value} {fs : List Ft} (h : FtX X lo w v fs) : ∃ a c, v = .slice a fs.length c := by
  obtain ⟨a, c, h, -, -⟩ := h.fts.form
  exact ⟨a, c, h⟩
/-- The box at place k, or that of all packets behind them. -/
def boxAt (fs : List Ft) (k : Nat) : Bx := match fs[k]? with
  | some f => f.box
  | none => ball
theorem litBx_at (w : World) (s : Value) (ty : TypeId) : SlAt 1 enc1 (w.alloc (.cells #[s] ty)) (.slice (some ⟨w.heap.size, 0, none⟩) 1 1) [s] := by
  refine ⟨_, 1, rfl, by simp, by simp [maxLen], fun k x hk => ?_⟩
  match k, hk with
  | 0, hk =>
    cases hk
    refine ⟨w.heap.size, 0, rfl, by simp, fun j u hj => ?_⟩
    have := cellsNew w (enc1 s) ty j u hj
    rwa [Addr.add_lit] at this
  | k + 1, hk => simp at hk
end Go.Proofs.YtajcogpfmpehkaaDoor
