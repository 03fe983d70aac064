/- Parts of all packets: both functions. -/
import Derived.Test.YtajcogpfmpehkaaDoorFdI
import Derived.Test.YtajcogpfmpehkaaDoorFnX
namespace Go.Proofs.YtajcogpfmpehkaaDoor
open Go.RowKit
/-- Rules in a list of the call's own under way; their boxes lie in no block of X. -/
def FtX (X : Nat → Prop) (lo : Nat) (w : World) (v : Value) (fs : List Ft) : Prop :=
  ∃ rs, OwnSl lo 34 2 RF.enc w v rs ∧ All2 (fun (r : RF) (f : Ft) => RwV (fun k => some k = v.ownBlock ∨ X k) w r.s f.box ∧ r.acc = f.acc) rs fs
theorem FtX.fts {X : Nat → Prop} {lo : Nat} {w : World} {v : Value} {fs : List Ft} (h : FtX X lo w v fs) : Fts 0 w v fs := by
  obtain ⟨rs, h1, h2⟩ := h
  exact ⟨rs, SlFr.mono (OwnSl.fr (sz := 2) (enc := RF.enc) (fun _ => rfl) h1) (Nat.zero_le _), h2.mono (fun _ _ g => ⟨g.1.rws, g.2⟩)⟩
theorem FtX.below {X : Nat → Prop} {lo : Nat} {w w' : World} {v : Value} {fs : List Ft} (h : FtX X lo w v fs) (hb : Below w.heap.size w w') : FtX X lo w' v fs := by
  obtain ⟨rs, h1, h2⟩ := h
  exact ⟨rs, OwnSl.kept h1 hb, h2.mono (fun _ _ g => ⟨g.1.below hb, g.2⟩)⟩
theorem FtX.lt {X : Nat → Prop} {lo : Nat} {w : World} {v : Value} {fs : List Ft} (h : FtX X lo w v fs) : ∀ z, v.ownBlock = some z → lo ≤ z ∧ z < w.heap.size := by
  obtain ⟨rs, h1, _⟩ := h
  exact fun z hz => World.ownsRow.lt h1 z hz
theorem FtX.form {X : Nat → Prop} {lo : Nat} {w : World} {v : Value} {fs : List Ft} (h : FtX X lo w v fs) : ∃ a c, v = .slice a fs.length c := by
  obtain ⟨a, c, h, -, -⟩ := h.fts.form
  exact ⟨a, c, h⟩
theorem ft_append {X : Nat → Prop} {lo : Nat} {w : World} {v vx : Value} {fs gs : List Ft} {ws : List RF} (ty : TypeId) (ho : FtX X lo w v fs) (hs : SlAt 2 RF.enc w vx ws) (hg : All2 (fun (r : RF) (f : Ft) => RwV (fun k => some k = v.ownBlock ∨ X k) w r.s f.box ∧ r.acc = f.acc) ws gs) (hb : fs.length + gs.length ≤ 1000000) (hlo : lo ≤ w.heap.size) :
    ∃ v' w', (Builtin.append_ #[23, 23] ty #[v, vx]).run Tryd.prog w = .ok v' w' ∧ FtX X lo w' v' (fs ++ gs) ∧ w.grownBy w' v.ownBlock ∧ ∀ z, v'.ownBlock = some z → v.ownBlock = some z ∨ z = w.heap.size := by
  obtain ⟨i0, hi, hy0, hy1, hy2⟩ := info_parts infoFt
  obtain ⟨rs, g1, g2⟩ := ho
  have e1 := g2.1
  have e2 := hg.1
  have hone : ∀ u ∈ ws.flatMap RF.enc, u.oneCell' = true := fun u hu => by
    obtain ⟨r, hr, hu2⟩ := List.mem_flatMap.1 hu
    obtain ⟨k, hk⟩ := List.getElem?_of_mem hr
    obtain ⟨f, hf⟩ : ∃ f, gs[k]? = some f := ⟨_, List.getElem?_eq_getElem (by rw [← e2]; exact (List.getElem?_eq_some_iff.1 hk).1)⟩
    obtain ⟨a, c, he, -, -⟩ := (hg.2 k r f hk hf).1.rws.form
    simp only [RF.enc, List.mem_cons, List.not_mem_nil, or_false] at hu2
    rcases hu2 with rfl | rfl
    · rw [he]; rfl
    · rfl
  obtain ⟨v', w', hrun, hown, hgr, hat⟩ := own_append_all (sz := 2) (enc := RF.enc) (by omega) (fun _ => rfl) (P := Tryd.prog) 23 ty 34 i0 _ 32 Tryd.underlying23 hi hy0 hy1 hy2 rfl hone g1 hs (by omega) (by simp only [maxLen]; omega) hlo
  refine ⟨v', w', hrun, ⟨rs ++ ws, hown, ?_⟩, hgr, hat⟩
  have key : ∀ k, k < w.heap.size → ¬ (some k = v.ownBlock ∨ X k) → w'.heap[k]? = w.heap[k]? ∧ ¬ (some k = v'.ownBlock ∨ X k) := fun k k1 k2 => ⟨hgr.block k k1 (fun e => k2 (.inl e)), fun e => by
    rcases e with e | e
    · rcases hat k e.symm with h | h
      · exact k2 (.inl h.symm)
      · omega
    · exact k2 (.inr e)⟩
  have f1 := g2.mono (S := fun (r : RF) (f : Ft) => RwV (fun k => some k = v'.ownBlock ∨ X k) w' r.s f.box ∧ r.acc = f.acc) (fun _ _ g => ⟨g.1.keep hgr.size key, g.2⟩)
  have f2 := hg.mono (S := fun (r : RF) (f : Ft) => RwV (fun k => some k = v'.ownBlock ∨ X k) w' r.s f.box ∧ r.acc = f.acc) (fun _ _ g => ⟨g.1.keep hgr.size key, g.2⟩)
  refine ⟨by rw [List.length_append, List.length_append, f1.1, f2.1], fun k x y hx hy => ?_⟩
  by_cases hk : k < rs.length
  · rw [List.getElem?_append_left hk] at hx
    rw [List.getElem?_append_left (by rw [← f1.1]; exact hk)] at hy
    exact f1.2 k x y hx hy
  · rw [List.getElem?_append_right (by omega)] at hx
    rw [List.getElem?_append_right (by rw [← f1.1]; omega), ← f1.1] at hy
    exact f2.2 _ x y hx hy
theorem litRF_at (w : World) (s : Value) (c : Bool) (ty : TypeId) : SlAt 2 RF.enc (w.alloc (.cells #[s, .bool c] ty)) (.slice (some ⟨w.heap.size, 0, none⟩) 1 1) [⟨s, c⟩] := by
  refine ⟨_, 1, rfl, by simp, by simp [maxLen], fun k x hk => ?_⟩
  match k, hk with
  | 0, hk =>
    cases hk
    refine ⟨w.heap.size, 0, rfl, by simp, fun j u hj => ?_⟩
    have := cellsNew w (RF.enc ⟨s, c⟩) ty j u hj
    rwa [Addr.add_lit] at this
  | k + 1, hk => simp at hk
/-- The box at place k, or that of all packets behind them. -/
def boxAt (fs : List Ft) (k : Nat) : Bx := match fs[k]? with
  | some f => f.box
  | none => ball
end Go.Proofs.YtajcogpfmpehkaaDoor
