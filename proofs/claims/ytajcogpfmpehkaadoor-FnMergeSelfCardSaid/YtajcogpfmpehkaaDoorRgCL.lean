/- A box cut by boxes: the program's walk. -/
import Derived.Maps.OwnIn
import Derived.Test.YtajcogpfmpehkaaDoorRgI
namespace Go.Proofs.YtajcogpfmpehkaaDoor
open Go.RowKit Go.Shelf
attribute [local go_sem] Oper.semAt_some
/-- What the loop that collects the pieces has in memory. -/
structure JC (X : Nat → Prop) (w : World) (R0 R1 B D l : Nat) (rec : Loop) (h : Nat) (pre : List Bx) (W : World) : Prop where
  nm : w.heap.size ≤ R0 ∧ R0 < R1 ∧ R1 < B ∧ B < D ∧ D < l ∧ 0 < w.heap.size
  nh : B < h ∧ h ≠ D ∧ h ≠ l
  rl : W.heap[l]? = some (.loop rec)
  rd : W.heap[D]? = some (.deferred (some []))
  bl : Below w.heap.size w W
  r0 : W.cell? ⟨R0, 0, none⟩ = some (.slice none 0 0)
  f0 : W.frozen? ⟨R0, 0, none⟩ = false
  r1 : W.cell? ⟨R1, 0, none⟩ = some (.bool false)
  f1 : W.frozen? ⟨R1, 0, none⟩ = false
  fb : W.frozen? ⟨B, 0, none⟩ = false
  own : ∃ v rs, W.cell? ⟨B, 0, none⟩ = some v ∧ OwnSl (l + 1) 89 4 R4.enc W v rs ∧ v.ownBlock ≠ some h ∧ All2 (fun (r : R4) b => All2 (SpV (PB X B l h v.ownBlock) W) [r.v0, r.v1, r.v2, r.v3] b) rs pre
theorem JC.obk {X : Nat → Prop} {w W : World} {R0 R1 B D l h : Nat} {rec : Loop} {pre : List Bx} (J : JC X w R0 R1 B D l rec h pre W) : ∃ v rs, W.cell? ⟨B, 0, none⟩ = some v ∧ OwnSl (l + 1) 89 4 R4.enc W v rs ∧ Go.Proofs.YtajcogpfmpehkaaDoor.obk B W = v.ownBlock ∧ v.ownBlock ≠ some h ∧ All2 (fun (r : R4) b => All2 (SpV (PB X B l h (Go.Proofs.YtajcogpfmpehkaaDoor.obk B W)) W) [r.v0, r.v1, r.v2, r.v3] b) rs pre := by
  obtain ⟨v, rs, h1, h2, h3, h4⟩ := J.own
  have e : Go.Proofs.YtajcogpfmpehkaaDoor.obk B W = v.ownBlock := by unfold Go.Proofs.YtajcogpfmpehkaaDoor.obk; rw [h1]
  exact ⟨v, rs, h1, h2, e, h3, by rw [e]; exact h4⟩
theorem heap_lt {W : World} {k : Nat} {o : Obj} (h : W.heap[k]? = some o) : k < W.heap.size := (Array.getElem?_eq_some_iff.1 h).1
theorem JC.st {X : Nat → Prop} {w : World} {R0 R1 B D l : Nat} {rec : Loop} (h : Nat) (pre : List Bx) (W W' : World) (J : JC X w R0 R1 B D l rec h pre W) (hk : KIt h W W') : JC X w R0 R1 B D l rec h pre W' := by
  obtain ⟨n1, n2, n3, n4, n5, n6⟩ := J.nm
  obtain ⟨m1, m2, m3⟩ := J.nh
  have zl := heap_lt J.rl
  obtain ⟨v, rs, h1, h2, h3, h4⟩ := J.own
  have same : ∀ k, k < l → k ≠ h → W'.heap[k]? = W.heap[k]? := fun k hk1 hk2 => hk.2 k (by omega) hk2
  refine ⟨J.nm, J.nh, (hk.2 l zl (fun e => m3 e.symm)).trans J.rl, (same D n5 (fun e => m2 e.symm)).trans J.rd, J.bl.trans (hk.low (by omega) J.bl.size), (World.cell?_of_block (a := ⟨R0, 0, none⟩) (same R0 (by omega) (by omega))).trans J.r0, (World.frozen?_of_block (a := ⟨R0, 0, none⟩) (same R0 (by omega) (by omega))).trans J.f0, (World.cell?_of_block (a := ⟨R1, 0, none⟩) (same R1 (by omega) (by omega))).trans J.r1, (World.frozen?_of_block (a := ⟨R1, 0, none⟩) (same R1 (by omega) (by omega))).trans J.f1, (World.frozen?_of_block (a := ⟨B, 0, none⟩) (same B (by omega) (by omega))).trans J.fb, v, rs, (World.cell?_of_block (a := ⟨B, 0, none⟩) (same B (by omega) (by omega))).trans h1, OwnSl.keepB h2 (fun g g1 _ g3 => hk.2 g g3 (fun e => h3 (by rw [g1, e]))), h3, h4.mono (fun _ _ g => (All2.mono g (fun _ _ q => q.keep hk.1 (fun k k1 k2 => ⟨hk.2 k k1 (fun e => k2 (.inr (.inr (.inl e)))), k2⟩)) : All2 _ _ _))⟩
theorem Sps.ints {lo : Nat} {w w' : World} {v : Value} {xs : List Sp} (h : Sps lo w v xs) (hz : w.heap.size ≤ w'.heap.size) (hc : ∀ (p : Addr) (n : Int), w.cell? p = some (.int .i64 n) → w'.cell? p = some (.int .i64 n)) : Sps lo w' v xs := by
  obtain ⟨a, cap, rfl, h1, h2, hx⟩ := h
  refine ⟨a, cap, rfl, h1, h2, fun k x hk => ?_⟩
  obtain ⟨b, o, ha, h3, h4, hcc⟩ := hx k x hk
  refine ⟨b, o, ha, h3, by omega, fun j u hj => ?_⟩
  have := hcc j u hj
  match j, hj with
  | 0, hj => cases hj; exact hc _ _ this
  | 1, hj => cases hj; exact hc _ _ this
  | j + 2, hj => simp at hj
/-- Boxes as arrays of sets, in a list of the call's own; the sets may be shared, and lie in no block of X. -/
def SdO (X : Nat → Prop) (lo : Nat) (w : World) (v : Value) (bs : List Bx) : Prop :=
  ∃ rs, OwnSl lo 89 4 R4.enc w v rs ∧ All2 (fun (r : R4) b => All2 (SpV (fun k => some k = v.ownBlock ∨ X k) w) [r.v0, r.v1, r.v2, r.v3] b) rs bs
/-- What is left where a set has too many ranges. -/
structure JX (w : World) (R0 R1 D l : Nat) (rec : Loop) (W : World) : Prop where
  rl : W.heap[l]? = some (.loop { rec with state := .done, pending := some .ret })
  rd : W.heap[D]? = some (.deferred (some []))
  bl : Below w.heap.size w W
  r0 : W.cell? ⟨R0, 0, none⟩ = some (.slice none 0 0)
  f0 : W.frozen? ⟨R0, 0, none⟩ = false
  r1 : W.cell? ⟨R1, 0, none⟩ = some (.bool false)
  f1 : W.frozen? ⟨R1, 0, none⟩ = false
/-- Boxes whose sets lie in no block of X. -/
def IssX (X : Nat → Prop) (w : World) (v : Value) (bs : List Bx) : Prop := ∃ rs, SlFr 0 4 R4.enc w v rs ∧ All2 (fun (r : R4) b => All2 (SpV X w) [r.v0, r.v1, r.v2, r.v3] b) rs bs
theorem IssX.iss {X : Nat → Prop} {w : World} {v : Value} {bs : List Bx} (h : IssX X w v bs) : Iss 0 w v bs :=
  let ⟨rs, h1, h2⟩ := h
  ⟨rs, h1, h2.mono (fun _ _ g => (All2.mono g (fun _ _ q => q.1) : All2 _ _ _))⟩
theorem IssX.below {X : Nat → Prop} {w w' : World} {v : Value} {bs : List Bx} (h : IssX X w v bs) (hb : Below w.heap.size w w') : IssX X w' v bs :=
  let ⟨rs, h1, h2⟩ := h
  ⟨rs, h1.below hb, h2.mono (fun _ _ g => (All2.mono g (fun _ _ q => q.below hb) : All2 _ _ _))⟩
theorem IssX.form {X : Nat → Prop} {w : World} {v : Value} {bs : List Bx} (h : IssX X w v bs) : ∃ a cap, v = .slice a bs.length cap ∧ bs.length ≤ cap ∧ cap ≤ maxLen := h.iss.form
theorem IssX.sub {X X' : Nat → Prop} {w : World} {v : Value} {bs : List Bx} (h : IssX X w v bs) (hX : ∀ k, X' k → X k) : IssX X' w v bs :=
  let ⟨rs, h1, h2⟩ := h
  ⟨rs, h1, h2.mono (fun _ _ g => (All2.mono g (fun _ _ q => q.sub hX) : All2 _ _ _))⟩
theorem IssX.at {X : Nat → Prop} {w : World} {a : Option Addr} {n cap : Nat} {bs : List Bx} (h : IssX X w (.slice a n cap) bs) {k : Nat} {f : Bx} (hk : bs[k]? = some f) :
    ∃ b o v0 v1 v2 v3, a = some ⟨b, o, none⟩ ∧ b < w.heap.size ∧ w.cell? ⟨b, o + k * 4, none⟩ = some v0 ∧ w.cell? ⟨b, o + k * 4 + 1, none⟩ = some v1 ∧ w.cell? ⟨b, o + k * 4 + 2, none⟩ = some v2 ∧ w.cell? ⟨b, o + k * 4 + 3, none⟩ = some v3 ∧ All2 (SpV X w) [v0, v1, v2, v3] f := by
  obtain ⟨rs, ⟨a', cap', he, _, _, hx⟩, h2⟩ := h
  obtain ⟨rfl, _, _⟩ := Value.slice.inj he
  obtain ⟨r, hr, hs⟩ := h2.left hk
  obtain ⟨b, o, ha, _, hb, hc⟩ := hx k r hr
  exact ⟨b, o, r.v0, r.v1, r.v2, r.v3, ha, hb, by simpa using hc 0 _ rfl, hc 1 _ rfl, hc 2 _ rfl, hc 3 _ rfl, hs⟩
theorem Iss.old {X : Nat → Prop} {lo : Nat} {w0 w : World} {v : Value} {bs : List Bx} (h : Iss lo w0 v bs) (hb : Below w0.heap.size w0 w) (hX : ∀ k, X k → w0.heap.size ≤ k) : IssX X w v bs :=
  let ⟨rs, h1, h2⟩ := h
  ⟨rs, (h1.mono (Nat.zero_le _)).below hb, h2.mono (fun _ _ g => (All2.mono g (fun _ _ q => SpV.old q hb hX) : All2 _ _ _))⟩
theorem Iss.x {lo : Nat} {w : World} {v : Value} {bs : List Bx} (h : Iss lo w v bs) : IssX (fun _ => False) w v bs :=
  let ⟨rs, h1, h2⟩ := h
  ⟨rs, h1.mono (Nat.zero_le _), h2.mono (fun _ _ g => (All2.mono g (fun _ _ q => SpV.no q) : All2 _ _ _))⟩
/-- Boxes in a list of the call's own under way. -/
def NX (X : Nat → Prop) (lo : Nat) (w : World) (v : Value) (bs : List Bx) : Prop :=
  ∃ rs, OwnSl lo 89 4 R4.enc w v rs ∧ All2 (fun (r : R4) b => All2 (SpV (fun k => some k = v.ownBlock ∨ X k) w) [r.v0, r.v1, r.v2, r.v3] b) rs bs
theorem NX.iss {X : Nat → Prop} {lo : Nat} {w : World} {v : Value} {bs : List Bx} (h : NX X lo w v bs) : Iss 0 w v bs := by
  obtain ⟨rs, h1, h2⟩ := h
  exact ⟨rs, SlFr.mono (OwnSl.fr (sz := 4) (enc := R4.enc) (fun _ => rfl) h1) (Nat.zero_le _), h2.mono (fun _ _ g => (All2.mono g (fun _ _ q => q.1) : All2 _ _ _))⟩
theorem NX.below {X : Nat → Prop} {lo : Nat} {w w' : World} {v : Value} {bs : List Bx} (h : NX X lo w v bs) (hb : Below w.heap.size w w') : NX X lo w' v bs := by
  obtain ⟨rs, h1, h2⟩ := h
  exact ⟨rs, OwnSl.kept h1 hb, h2.mono (fun _ _ g => (All2.mono g (fun _ _ q => q.keep hb.size (fun k k1 k2 => ⟨hb.block k k1, k2⟩)) : All2 _ _ _))⟩
theorem NX.form {X : Nat → Prop} {lo : Nat} {w : World} {v : Value} {bs : List Bx} (h : NX X lo w v bs) : ∃ a c, v = .slice a bs.length c := by
  obtain ⟨rs, h1, h2⟩ := h
  rw [← h2.1]
  rcases OwnSl.form h1 with ⟨h, h'⟩ | ⟨g, c, h, _⟩
  · exact ⟨_, _, by rw [h', h]; rfl⟩
  · exact ⟨_, _, h⟩
/-- The pieces are put behind those that are there. -/
theorem NX.push {X : Nat → Prop} {lo : Nat} {w w2 : World} {v v' : Value} {bs cs : List Bx} {ws : List R4} {H : Nat} (hc : All2 (fun (r : R4) b => All2 (SpV (fun k => some k = v.ownBlock ∨ X k) w) [r.v0, r.v1, r.v2, r.v3] b) ws cs)
    (hg : w.heap.size ≤ w2.heap.size ∧ ∀ k, k < w.heap.size → some k ≠ v.ownBlock → w2.heap[k]? = w.heap[k]?) (hat : ∀ z, v'.ownBlock = some z → v.ownBlock = some z ∨ z = H) (hH : w.heap.size ≤ H) {rs : List R4}
    (h2 : All2 (fun (r : R4) b => All2 (SpV (fun k => some k = v.ownBlock ∨ X k) w) [r.v0, r.v1, r.v2, r.v3] b) rs bs) (hown : OwnSl lo 89 4 R4.enc w2 v' (rs ++ ws)) : NX X lo w2 v' (bs ++ cs) := by
  have key : ∀ k, k < w.heap.size → ¬ (some k = v.ownBlock ∨ X k) → w2.heap[k]? = w.heap[k]? ∧ ¬ (some k = v'.ownBlock ∨ X k) := fun k k1 k2 => ⟨hg.2 k k1 (fun e => k2 (.inl e)), fun e => by
    rcases e with e | e
    · rcases hat k e.symm with h | h
      · exact k2 (.inl h.symm)
      · omega
    · exact k2 (.inr e)⟩
  refine ⟨rs ++ ws, hown, ?_⟩
  have e1 := h2.mono (S := fun (r : R4) b => All2 (SpV (fun k => some k = v'.ownBlock ∨ X k) w2) [r.v0, r.v1, r.v2, r.v3] b) (fun _ _ g => All2.mono g (fun _ _ q => q.keep hg.1 key))
  have e2 := hc.mono (S := fun (r : R4) b => All2 (SpV (fun k => some k = v'.ownBlock ∨ X k) w2) [r.v0, r.v1, r.v2, r.v3] b) (fun _ _ g => All2.mono g (fun _ _ q => q.keep hg.1 key))
  refine ⟨by rw [List.length_append, List.length_append, e1.1, e2.1], fun k x y hx hy => ?_⟩
  by_cases hk : k < rs.length
  · rw [List.getElem?_append_left hk] at hx
    rw [List.getElem?_append_left (by rw [← e1.1]; exact hk)] at hy
    exact e1.2 k x y hx hy
  · rw [List.getElem?_append_right (by omega)] at hx
    rw [List.getElem?_append_right (by rw [← e1.1]; omega), ← e1.1] at hy
    exact e2.2 _ x y hx hy
theorem run_append_nothing {P : Program} {w : World} (t ty e : TypeId) (i : TypeInfo) (ht : P.underlying t = some (.slice e)) (hi : P.info? e = some i) (a b : Option Addr) (n cap : Nat) (hn : n ≤ cap) (c : Nat) (ha : a = none → n = 0 ∧ cap = 0) :
    (Builtin.append_ #[t, t] ty #[.slice a n cap, .slice b 0 c]).run P w = .ok (.slice a n cap) w := by
  have hz0 : ∀ w, (Builtin.firstCells i.size 0 (.slice b 0 c)).run P w = .ok #[] w := fun w => by
    cases b <;> simp [Builtin.firstCells, loadCells, loadCellsFrom]
  cases a with
  | some ad => simp [Builtin.append_, run_underlying ht, sizeOf, typeInfo, hi, Builtin.lenOf, hz0, storeCells, Result.andThen, hn]
  | none =>
    obtain ⟨rfl, rfl⟩ := ha rfl
    simp [Builtin.append_, run_underlying ht, sizeOf, typeInfo, hi, Builtin.lenOf, hz0, Result.andThen]
end Go.Proofs.YtajcogpfmpehkaaDoor
