/- A box cut by boxes: the program's walk. -/
import Derived.Maps.OwnIn
import Derived.Test.YtajcogpfmpehkaaDoorRgI
namespace Go.Proofs.YtajcogpfmpehkaaDoor
open Go.RowKit Go.Shelf
attribute [local go_sem] Oper.semAt_some
set_option maxHeartbeats 1000000 in
theorem pieces_in (v0 v1 v2 v3 u0 u1 u2 u3 : Value) (w : World) :
    Calls Tryd.prog 119 #[.agg #[v0, v1, v2, v3], .agg #[u0, u1, u2, u3]] w fun e w' => e = .returned (.func (.func 130) #[] #[.pointer (some ⟨w.heap.size, 0, none⟩), .pointer (some ⟨w.heap.size + 1, 0, none⟩)]) ∧ w' = (w.alloc (.cells #[v0, v1, v2, v3] 89)).alloc (.cells #[u0, u1, u2, u3] 89) := by
  go_enter Tryd.func119, Tryd.ntmps119
  go_wp2
  go_ret
  exact ⟨rfl, rfl⟩
/-- The statement 'for .. := range g { .. }' outside every loop, no fence about it: the record and the block for deferred calls are laid; what the one call comes to. -/
theorem range_wide {P : Program} {g : Operand} {ps : Array Tmp} {assign body : Code} {Q : Exit → Act → World → Prop} {a : Act} {w : World} {gf : Nat} {lb : Array Value}
    (hg : a.eval g = .func (.func gf) #[] lb) (eg : ∀ args w, (callFunc gf args).run P w = .ok (.enter gf args) w)
    (h : ∀ (fn : FuncId) (rec : Loop), rec = { state := .ready, pending := none, fn := fn, tmps := a.tmps, params := ps, assign := assign, body := body, defers := w.heap.size } → CallsIn Fence.wide 2 P gf (#[.func (.yield (w.heap.size + 1)) #[] #[]] ++ lb) ((w.alloc (.deferred (some []))).alloc (.loop rec))
      (rangePost Fence.wide 3 P (w.heap.size + 1) Q { a with defers := { target := .collected w.heap.size, args := #[] } :: a.defers })) :
    (Code.rangeFunc g ps assign body).wpIn Fence.wide 3 P Q a w := by
  refine wpIn_rangeFunc (fun fn _ => ?_)
  obtain ⟨rec, hrec⟩ : ∃ rec : Loop, rec = { state := .ready, pending := none, fn := fn, tmps := a.tmps, params := ps, assign := assign, body := body, defers := w.heap.size } := ⟨_, rfl⟩
  have hr := run_enterLoop_outer (P := P) (w := w) fn a.tmps ps assign body
  rw [← hrec] at hr
  refine ⟨w.heap.size + 1, [{ target := .collected w.heap.size, args := #[] }], (w.alloc (.deferred (some []))).alloc (.loop rec), { target := .fn (.func gf) lb, args := #[.func (.yield (w.heap.size + 1)) #[] #[]] }, (w.alloc (.deferred (some []))).alloc (.loop rec), gf, #[.func (.yield (w.heap.size + 1)) #[] #[]] ++ lb, (w.alloc (.deferred (some []))).alloc (.loop rec), hr, ?r1, ?r2, ?r3, ?r4, ?r5⟩
  case r5 => exact h fn rec hrec
  case r4 => intro hh; simp [Fence.wide] at hh
  case r2 => exact fun _ _ => trivial
  case r1 =>
    simp only [resolve, hg]
    simp [go_sem]
  case r3 => simp [invoke, go_sem, eg]
/-- What the loop that collects the pieces has in memory. -/
structure JC (X : Nat → Prop) (w : World) (R0 R1 B D l : Nat) (rec : Loop) (h : Nat) (pre : List Bx) (W : World) : Prop where
  nm : w.heap.size ≤ R0 ∧ R0 < R1 ∧ R1 < B ∧ B < D ∧ D < l ∧ 0 < w.heap.size
  nh : B < h ∧ h ≠ D ∧ h ≠ l
  rl : W.heap[l]? = some (.loop rec)
  rd : W.heap[D]? = some (.deferred (some []))
  bl : Below w.heap.size w W
  r0 : W.cell? ⟨R0, 0, none⟩ = some (.slice none 0 0)
  f0 : W.frozen? ⟨R0, 0, none⟩ = false
  r1 : W.cell? ⟨R1, 0, none⟩ = some (.bool false)
  f1 : W.frozen? ⟨R1, 0, none⟩ = false
  fb : W.frozen? ⟨B, 0, none⟩ = false
  own : ∃ v rs, W.cell? ⟨B, 0, none⟩ = some v ∧ OwnSl (l + 1) 89 4 R4.enc W v rs ∧ v.ownBlock ≠ some h ∧ All2 (fun (r : R4) b => All2 (SpV (PB X B l h v.ownBlock) W) [r.v0, r.v1, r.v2, r.v3] b) rs pre
theorem JC.obk {X : Nat → Prop} {w W : World} {R0 R1 B D l h : Nat} {rec : Loop} {pre : List Bx} (J : JC X w R0 R1 B D l rec h pre W) : ∃ v rs, W.cell? ⟨B, 0, none⟩ = some v ∧ OwnSl (l + 1) 89 4 R4.enc W v rs ∧ Go.Proofs.YtajcogpfmpehkaaDoor.obk B W = v.ownBlock ∧ v.ownBlock ≠ some h ∧ All2 (fun (r : R4) b => All2 (SpV (PB X B l h (Go.Proofs.YtajcogpfmpehkaaDoor.obk B W)) W) [r.v0, r.v1, r.v2, r.v3] b) rs pre := by
  obtain ⟨v, rs, h1, h2, h3, h4⟩ := J.own
  have e : Go.Proofs.YtajcogpfmpehkaaDoor.obk B W = v.ownBlock := by unfold Go.Proofs.YtajcogpfmpehkaaDoor.obk; rw [h1]
  exact ⟨v, rs, h1, h2, e, h3, by rw [e]; exact h4⟩
theorem heap_lt {W : World} {k : Nat} {o : Obj} (h : W.heap[k]? = some o) : k < W.heap.size := (Array.getElem?_eq_some_iff.1 h).1
theorem JC.st {X : Nat → Prop} {w : World} {R0 R1 B D l : Nat} {rec : Loop} (h : Nat) (pre : List Bx) (W W' : World) (J : JC X w R0 R1 B D l rec h pre W) (hk : KIt h W W') : JC X w R0 R1 B D l rec h pre W' := by
  obtain ⟨n1, n2, n3, n4, n5, n6⟩ := J.nm
  obtain ⟨m1, m2, m3⟩ := J.nh
  have zl := heap_lt J.rl
  obtain ⟨v, rs, h1, h2, h3, h4⟩ := J.own
  have same : ∀ k, k < l → k ≠ h → W'.heap[k]? = W.heap[k]? := fun k hk1 hk2 => hk.2 k (by omega) hk2
  refine ⟨J.nm, J.nh, (hk.2 l zl (fun e => m3 e.symm)).trans J.rl, (same D n5 (fun e => m2 e.symm)).trans J.rd, J.bl.trans (hk.low (by omega) J.bl.size), (World.cell?_of_block (a := ⟨R0, 0, none⟩) (same R0 (by omega) (by omega))).trans J.r0, (World.frozen?_of_block (a := ⟨R0, 0, none⟩) (same R0 (by omega) (by omega))).trans J.f0, (World.cell?_of_block (a := ⟨R1, 0, none⟩) (same R1 (by omega) (by omega))).trans J.r1, (World.frozen?_of_block (a := ⟨R1, 0, none⟩) (same R1 (by omega) (by omega))).trans J.f1, (World.frozen?_of_block (a := ⟨B, 0, none⟩) (same B (by omega) (by omega))).trans J.fb, v, rs, (World.cell?_of_block (a := ⟨B, 0, none⟩) (same B (by omega) (by omega))).trans h1, OwnSl.keepB h2 (fun g g1 _ g3 => hk.2 g g3 (fun e => h3 (by rw [g1, e]))), h3, h4.mono (fun _ _ g => (All2.mono g (fun _ _ q => q.keep hk.1 (fun k k1 k2 => ⟨hk.2 k k1 (fun e => k2 (.inr (.inr (.inl e)))), k2⟩)) : All2 _ _ _))⟩
theorem cut_cells (w : World) (S O : Array Value) :
    (∀ j, (((((((w.alloc (.cells S 89)).alloc (.cells O 89)).alloc (.cells #[.slice none 0 0] 73)).alloc (.cells #[.bool false] 4)).alloc (.cells #[.slice none 0 0] 73)).alloc (.cells S 89)).alloc (.cells O 89)).cell? ⟨w.heap.size + 1 + 1 + 1 + 1 + 1, j, none⟩ = S[j]?) ∧ (∀ j, (((((((w.alloc (.cells S 89)).alloc (.cells O 89)).alloc (.cells #[.slice none 0 0] 73)).alloc (.cells #[.bool false] 4)).alloc (.cells #[.slice none 0 0] 73)).alloc (.cells S 89)).alloc (.cells O 89)).cell? ⟨w.heap.size + 1 + 1 + 1 + 1 + 1 + 1, j, none⟩ = O[j]?) ∧
    ((((((((w.alloc (.cells S 89)).alloc (.cells O 89)).alloc (.cells #[.slice none 0 0] 73)).alloc (.cells #[.bool false] 4)).alloc (.cells #[.slice none 0 0] 73)).alloc (.cells S 89)).alloc (.cells O 89)).cell? ⟨w.heap.size + 1 + 1 + 1 + 1, 0, none⟩ = some (.slice none 0 0) ∧ (((((((w.alloc (.cells S 89)).alloc (.cells O 89)).alloc (.cells #[.slice none 0 0] 73)).alloc (.cells #[.bool false] 4)).alloc (.cells #[.slice none 0 0] 73)).alloc (.cells S 89)).alloc (.cells O 89)).frozen? ⟨w.heap.size + 1 + 1 + 1 + 1, 0, none⟩ = false) ∧
    ((((((((w.alloc (.cells S 89)).alloc (.cells O 89)).alloc (.cells #[.slice none 0 0] 73)).alloc (.cells #[.bool false] 4)).alloc (.cells #[.slice none 0 0] 73)).alloc (.cells S 89)).alloc (.cells O 89)).cell? ⟨w.heap.size + 1 + 1, 0, none⟩ = some (.slice none 0 0) ∧ (((((((w.alloc (.cells S 89)).alloc (.cells O 89)).alloc (.cells #[.slice none 0 0] 73)).alloc (.cells #[.bool false] 4)).alloc (.cells #[.slice none 0 0] 73)).alloc (.cells S 89)).alloc (.cells O 89)).frozen? ⟨w.heap.size + 1 + 1, 0, none⟩ = false) ∧
    ((((((((w.alloc (.cells S 89)).alloc (.cells O 89)).alloc (.cells #[.slice none 0 0] 73)).alloc (.cells #[.bool false] 4)).alloc (.cells #[.slice none 0 0] 73)).alloc (.cells S 89)).alloc (.cells O 89)).cell? ⟨w.heap.size + 1 + 1 + 1, 0, none⟩ = some (.bool false) ∧ (((((((w.alloc (.cells S 89)).alloc (.cells O 89)).alloc (.cells #[.slice none 0 0] 73)).alloc (.cells #[.bool false] 4)).alloc (.cells #[.slice none 0 0] 73)).alloc (.cells S 89)).alloc (.cells O 89)).frozen? ⟨w.heap.size + 1 + 1 + 1, 0, none⟩ = false) ∧
    (((((((w.alloc (.cells S 89)).alloc (.cells O 89)).alloc (.cells #[.slice none 0 0] 73)).alloc (.cells #[.bool false] 4)).alloc (.cells #[.slice none 0 0] 73)).alloc (.cells S 89)).alloc (.cells O 89)).heap.size = w.heap.size + 1 + 1 + 1 + 1 + 1 + 1 + 1 ∧ Below w.heap.size w (((((((w.alloc (.cells S 89)).alloc (.cells O 89)).alloc (.cells #[.slice none 0 0] 73)).alloc (.cells #[.bool false] 4)).alloc (.cells #[.slice none 0 0] 73)).alloc (.cells S 89)).alloc (.cells O 89)) := by
  refine ⟨fun j => by go_simp, fun j => by go_simp, ⟨by go_simp, by go_simp⟩, ⟨by go_simp, by go_simp⟩, ⟨by go_simp, by go_simp⟩, by simp, by (repeat' (first | with_reducible exact Below.refl _ _ | with_reducible assumption | with_reducible refine Below.setCell ?_ ?_ _ | with_reducible refine Below.alloc ?_ ?_ _ | with_reducible refine Below.drew ?_ | with_reducible refine belDrewN ?_ _ | with_reducible refine Below.trans ?_ (Below.mono (by assumption) ?_) | omega | (simp; omega) | (simp; done)))⟩
theorem Sps.ints {lo : Nat} {w w' : World} {v : Value} {xs : List Sp} (h : Sps lo w v xs) (hz : w.heap.size ≤ w'.heap.size) (hc : ∀ (p : Addr) (n : Int), w.cell? p = some (.int .i64 n) → w'.cell? p = some (.int .i64 n)) : Sps lo w' v xs := by
  obtain ⟨a, cap, rfl, h1, h2, hx⟩ := h
  refine ⟨a, cap, rfl, h1, h2, fun k x hk => ?_⟩
  obtain ⟨b, o, ha, h3, h4, hcc⟩ := hx k x hk
  refine ⟨b, o, ha, h3, by omega, fun j u hj => ?_⟩
  have := hcc j u hj
  match j, hj with
  | 0, hj => cases hj; exact hc _ _ this
  | 1, hj => cases hj; exact hc _ _ this
  | j + 2, hj => simp at hj
/-- Boxes as arrays of sets, in a list of the call's own; the sets may be shared, and lie in no block of X. -/
def SdO (X : Nat → Prop) (lo : Nat) (w : World) (v : Value) (bs : List Bx) : Prop :=
  ∃ rs, OwnSl lo 89 4 R4.enc w v rs ∧ All2 (fun (r : R4) b => All2 (SpV (fun k => some k = v.ownBlock ∨ X k) w) [r.v0, r.v1, r.v2, r.v3] b) rs bs
theorem not_cell {W : World} {p : Addr} {k : Nat} {o : Obj} (h : W.heap[k]? = some o) (ho : o.isCells = false) {u : Value} (hc : W.cell? p = some u) : p.block ≠ k := by
  intro e
  subst e
  unfold World.cell? at hc
  rw [h] at hc
  cases o <;> simp_all [Obj.isCells]
/-- What is left where a set has too many ranges. -/
structure JX (w : World) (R0 R1 D l : Nat) (rec : Loop) (W : World) : Prop where
  rl : W.heap[l]? = some (.loop { rec with state := .done, pending := some .ret })
  rd : W.heap[D]? = some (.deferred (some []))
  bl : Below w.heap.size w W
  r0 : W.cell? ⟨R0, 0, none⟩ = some (.slice none 0 0)
  f0 : W.frozen? ⟨R0, 0, none⟩ = false
  r1 : W.cell? ⟨R1, 0, none⟩ = some (.bool false)
  f1 : W.frozen? ⟨R1, 0, none⟩ = false
set_option maxHeartbeats 2000000 in
set_option maxRecDepth 100000 in
theorem cut_any (X : Nat → Prop) (a b : Bx) (v0 v1 v2 v3 u0 u1 u2 u3 : Value) (w : World) (ht : Tab w) (hXX : ∀ k, X k → k < w.heap.size) (hs : All2 (SpV X w) [v0, v1, v2, v3] a) (hu : All2 (SpV X w) [u0, u1, u2, u3] b) (ha : bvalid a = true) (hb : bvalid b = true) :
    Calls Tryd.prog 97 #[.agg #[v0, v1, v2, v3], .agg #[u0, u1, u2, u3]] w fun e w' => ∃ z, e = .returned (.tuple #[z, .bool ((bcut a b).all bvalid)]) ∧ ((bcut a b).all bvalid = true → SdO X w.heap.size w' z (bcut a b)) ∧ Below w.heap.size w w' := by
  refine (callsIn_wide (n := 3)).1 ?_
  refine callsIn_of_wp_marks Tryd.func97 rfl trivial ?_ rfl
  simp only [Tryd.ntmps97, List.size_toArray, List.length_cons, List.length_nil, Nat.reduceAdd, Nat.reduceSub, Array.replicate_succ, Array.replicate_zero, List.push_toArray, List.append_toArray, List.nil_append, List.cons_append]
  obtain ⟨i0, hi, hy0, hy1, hy2⟩ := info_parts infoSd
  have hn := ht.1
  gi_wp2_with (refine ⟨trivial, ?_⟩; gi_at_call 119; refine (callsIn_wide.2 (pieces_in _ _ _ _ _ _ _ _ _)).mono ?_; rintro e w' ⟨rfl, rfl⟩)
  obtain ⟨W0, hW0⟩ : ∃ W0, (((((((w.alloc (.cells #[v0, v1, v2, v3] 89)).alloc (.cells #[u0, u1, u2, u3] 89)).alloc (.cells #[.slice none 0 0] 73)).alloc (.cells #[.bool false] 4)).alloc (.cells #[.slice none 0 0] 73)).alloc (.cells #[v0, v1, v2, v3] 89)).alloc (.cells #[u0, u1, u2, u3] 89)) = W0 := ⟨_, rfl⟩
  have hcc := cut_cells w #[v0, v1, v2, v3] #[u0, u1, u2, u3]
  rw [hW0] at hcc
  obtain ⟨cS, cO, cB, cR, cQ, hz, hb0⟩ := hcc
  have hz0 : W0.heap.size ≤ w.heap.size + 1 + 1 + 1 + 1 + 1 + 1 + 1 := by omega
  have hz0' : w.heap.size + 1 + 1 + 1 + 1 + 1 + 1 + 1 ≤ W0.heap.size := by omega
  clear hz
  refine range_wide (gf := 130) rfl (enters_of Tryd.func130 (by kernel_rfl) rfl) (fun fn rec hrec => ?_)
  rw [hW0] at hrec ⊢
  clear hW0
  have HCS := Lib.hid cS
  have HCO := Lib.hid cO
  clear cS cO
  have hbl1 : Below W0.heap.size W0 ((W0.alloc (.deferred (some []))).alloc (.loop rec)) := ((Below.refl _ _).alloc (Nat.le_refl _) _).alloc (by simp) _
  have hrl : ((W0.alloc (.deferred (some []))).alloc (.loop rec)).heap[W0.heap.size + 1]? = some (.loop rec) := by
    have := World.alloc_heap_new (W0.alloc (.deferred (some []))) (.loop rec); rwa [World.size_alloc] at this
  have hrd : ((W0.alloc (.deferred (some []))).alloc (.loop rec)).heap[W0.heap.size]? = some (.deferred (some [])) :=
    (Below.heap_alloc _ _ _ (by simp)).trans (World.alloc_heap_new W0 _)
  obtain ⟨W1, hW1⟩ : ∃ W1, (W0.alloc (.deferred (some []))).alloc (.loop rec) = W1 := ⟨_, rfl⟩
  have hz1 : W1.heap.size ≤ W0.heap.size + 1 + 1 := by rw [← hW1]; simp
  have hz1' : W0.heap.size + 1 + 1 ≤ W1.heap.size := by rw [← hW1]; simp
  rw [hW1] at hbl1 hrl hrd ⊢
  clear hW1
  have HJ1 : ∀ h, h = w.heap.size + 1 + 1 + 1 + 1 + 1 ∨ W1.heap.size ≤ h → JC X w (w.heap.size + 1 + 1) (w.heap.size + 1 + 1 + 1) (w.heap.size + 1 + 1 + 1 + 1) W0.heap.size (W0.heap.size + 1) rec h [] W1 := fun h hh =>
    ⟨by omega, by omega, hrl, hrd, hb0.trans (hbl1.mono (by omega)), (hbl1.cell (p := ⟨w.heap.size + 1 + 1, 0, none⟩) (by simp only; omega)).trans cR.1, (hbl1.frozen (p := ⟨w.heap.size + 1 + 1, 0, none⟩) (by simp only; omega)).trans cR.2,
     (hbl1.cell (p := ⟨w.heap.size + 1 + 1 + 1, 0, none⟩) (by simp only; omega)).trans cQ.1, (hbl1.frozen (p := ⟨w.heap.size + 1 + 1 + 1, 0, none⟩) (by simp only; omega)).trans cQ.2, (hbl1.frozen (p := ⟨w.heap.size + 1 + 1 + 1 + 1, 0, none⟩) (by simp only; omega)).trans cB.2,
     _, [], (hbl1.cell (p := ⟨w.heap.size + 1 + 1 + 1 + 1, 0, none⟩) (by simp only; omega)).trans cB.1, World.ownsRow_nil _ _ _ _, fun e => (by cases e), All2.nil⟩
  have HR : Rnd X (w.heap.size + 1 + 1 + 1 + 1) (W0.heap.size + 1) (JC X w (w.heap.size + 1 + 1) (w.heap.size + 1 + 1 + 1) (w.heap.size + 1 + 1 + 1 + 1) W0.heap.size (W0.heap.size + 1) rec) (JX w (w.heap.size + 1 + 1) (w.heap.size + 1 + 1 + 1) W0.heap.size (W0.heap.size + 1) rec) := by
    refine ⟨JC.st, fun h pre W J => ?_, fun h pre W J => ht.below J.bl, ?_, ?_⟩
    · obtain ⟨v, rs, q1, q2, q3, q4, q5⟩ := J.obk
      obtain ⟨n1, n2, n3, n4, n5, n6⟩ := J.nm
      obtain ⟨m1, m2, m3⟩ := J.nh
      have zl := heap_lt J.rl
      exact ⟨by omega, zl, by omega, m3, fun e => q4 (by rw [← q3]; exact e.symm), fun z hz => (World.ownsRow.lt q2 z (by rw [← q3]; exact hz)).2⟩
    · intro h pre x0 x1 x2 x3 bx W J hh hlen hset
      obtain ⟨A0, N0, P0, A1, N1, P1, A2, N2, P2, A3, N3, P3, rfl, rfl, rfl, rfl⟩ := sl4_form (hset.mono (fun _ _ h => h.sps))
      obtain ⟨v, rs, q1, q2, q3, q4, q5⟩ := J.obk
      obtain ⟨n1, n2, n3, n4, n5, n6⟩ := J.nm
      obtain ⟨m1, m2, m3⟩ := J.nh
      have zl := heap_lt J.rl
      have HREC := Lib.hid hrec
      have HSET := Lib.hid hset
      have HQ5 := Lib.hid q5
      have HQ3 := Lib.hid q3
      have HJ := Lib.hid J
      have hlr : rs.length ≤ 4 := by rw [q5.1]; omega
      have hvo : ∀ z, v.ownBlock = some z → W0.heap.size + 1 + 1 ≤ z ∧ z < W.heap.size := fun z hz => World.ownsRow.lt q2 z hz
      have hal : Below W.heap.size W (W.alloc (.cells #[.slice A0 N0 P0, .slice A1 N1 P1, .slice A2 N2 P2, .slice A3 N3 P3] 89)) := (Below.refl _ _).alloc (Nat.le_refl _) _
      have hbr := run_beginRound (P := Tryd.prog) ((hal.block (W0.heap.size + 1) zl).trans J.rl) (by rw [hrec])
      have hc4 : ∀ j u, [Value.slice A0 N0 P0, .slice A1 N1 P1, .slice A2 N2 P2, .slice A3 N3 P3][j]? = some u → (W.alloc (.cells #[.slice A0 N0 P0, .slice A1 N1 P1, .slice A2 N2 P2, .slice A3 N3 P3] 89)).cell? ⟨W.heap.size, j, none⟩ = some u := fun k v hk => by
        match k, hk with
        | 0, hk => cases hk; simp
        | 1, hk => cases hk; simp
        | 2, hk => cases hk; simp
        | 3, hk => cases hk; simp
        | k + 4, hk => simp at hk
      refine ⟨rec.fn, _, rec.assign, rec.body, run_yield J.rl (by rw [hrec]; rfl), roundIn_of_wpIn trivial ?_⟩
      clear hset q5 q3 J
      rw [hrec]
      clear hrec
      gi_wp2
      refine ⟨_, hbr, ?_⟩
      obtain ⟨W2, hW2⟩ : ∃ W2, (W.alloc (.cells #[.slice A0 N0 P0, .slice A1 N1 P1, .slice A2 N2 P2, .slice A3 N3 P3] 89)).putObj (W0.heap.size + 1) (.loop { rec with state := .busy }) = W2 := ⟨_, rfl⟩
      have hK2 : ∀ k, k ≠ W0.heap.size + 1 → W2.heap[k]? = (W.alloc (.cells #[.slice A0 N0 P0, .slice A1 N1 P1, .slice A2 N2 P2, .slice A3 N3 P3] 89)).heap[k]? := fun k hk => by rw [← hW2]; exact World.putObj_heap_other hk
      have hl2 : W2.heap[W0.heap.size + 1]? = some (.loop { rec with state := .busy }) := by rw [← hW2]; exact World.putObj_heap_same (by simp; omega)
      have z2 : W2.heap.size ≤ W.heap.size + 1 := by rw [← hW2]; simp
      have z2' : W.heap.size + 1 ≤ W2.heap.size := by rw [← hW2]; simp
      have hB2 : Below w.heap.size W W2 := by rw [← hW2]; exact (hal.mono (by omega)).grown (grownBy_putObj' _ _ _) (by simp; omega) (fun k e => by cases e; omega)
      rw [hW2]
      clear hW2 hbr
      have p0 := (World.cell?_of_block (a := ⟨W.heap.size, 0, none⟩) (hK2 W.heap.size (by omega))).trans (hc4 0 _ rfl)
      have p1 := (World.cell?_of_block (a := ⟨W.heap.size, 1, none⟩) (hK2 W.heap.size (by omega))).trans (hc4 1 _ rfl)
      have p2 := (World.cell?_of_block (a := ⟨W.heap.size, 2, none⟩) (hK2 W.heap.size (by omega))).trans (hc4 2 _ rfl)
      have p3 := (World.cell?_of_block (a := ⟨W.heap.size, 3, none⟩) (hK2 W.heap.size (by omega))).trans (hc4 3 _ rfl)
      have hs2 : ∀ k, k < W.heap.size → k ≠ W0.heap.size + 1 → W2.heap[k]? = W.heap[k]? := fun k k1 k2 => (hK2 k k2).trans (hal.block k k1)
      have b0 := (World.cell?_of_block (a := ⟨w.heap.size + 1 + 1 + 1 + 1, 0, none⟩) (hs2 _ (by simp only; omega) (by simp only; omega))).trans q1
      have bf := (World.frozen?_of_block (a := ⟨w.heap.size + 1 + 1 + 1 + 1, 0, none⟩) (hs2 _ (by simp only; omega) (by simp only; omega))).trans HJ.out.fb
      have HO2 := Lib.hid (OwnSl.keepB q2 (fun z z1 _ z3 => hs2 z z3 (by have := hvo z z1; omega)))
      obtain ⟨va, vc, rfl⟩ : ∃ a c, v = .slice a rs.length c := by
        rcases OwnSl.form q2 with ⟨h, h'⟩ | ⟨g, c, h, _⟩
        · exact ⟨_, _, by rw [h', h]; rfl⟩
        · exact ⟨_, _, h⟩
      clear hc4 hK2 q2 q1
      gi_wp2_with (gi_at_builtin; refine wpListIn_append_own_at _ rfl _ _ 73 rfl (W0.heap.size + 1 + 1) 89 i0 _ 4 96 Tryd.underlying73 hi hy0 hy1 hy2 rfl (by decide) _ _ _ rfl (World.ownsRow.alloc HO2.out _) ⟨W2.heap.size, 0, none⟩ 1 1 [.slice A0 N0 P0, .slice A1 N1 P1, .slice A2 N2 P2, .slice A3 N3 P3] rfl rfl (cellsNew W2 [.slice A0 N0 P0, .slice A1 N1 P1, .slice A2 N2 P2, .slice A3 N3 P3] _) ?c2 ?c3 ?c4 ?c5 ?_)
      case c2 => simp [Value.oneCell']
      case c3 => simp only [maxLen]; omega
      case c4 => omega
      case c5 => simp; omega
      intro v' w5 hown5 hgrow5 _ hat5
      obtain ⟨g5, cap5, rfl⟩ := ownsRow_succ hown5
      have z5 := hgrow5.size
      simp only [World.size_alloc] at z5
      have hs5 : ∀ k, k < W.heap.size → k ≠ W0.heap.size + 1 → some k ≠ (Value.slice va rs.length vc).ownBlock → w5.heap[k]? = W.heap[k]? := fun k k1 k2 k3 =>
        (hgrow5.block k (by simp; omega) k3).trans ((Below.heap_alloc _ _ _ (by omega)).trans (hs2 k k1 k2))
      have hoB : some (w.heap.size + 1 + 1 + 1 + 1) ≠ (Value.slice va rs.length vc).ownBlock := fun e => by have := hvo _ e.symm; omega
      have b5 := (World.cell?_of_block (a := ⟨w.heap.size + 1 + 1 + 1 + 1, 0, none⟩) ((hgrow5.block (w.heap.size + 1 + 1 + 1 + 1) (by simp; omega) hoB).trans (Below.heap_alloc _ _ _ (by omega)))).trans b0
      have bf5 := (World.frozen?_of_block (a := ⟨w.heap.size + 1 + 1 + 1 + 1, 0, none⟩) ((hgrow5.block (w.heap.size + 1 + 1 + 1 + 1) (by simp; omega) hoB).trans (Below.heap_alloc _ _ _ (by omega)))).trans bf
      have hl5 := (hgrow5.block (W0.heap.size + 1) (by simp; omega) (fun e => by have := hvo _ e.symm; omega)).trans ((Below.heap_alloc _ _ _ (by omega)).trans hl2)
      have hB5 : Below w.heap.size W w5 := (hB2.alloc (by omega) _).grown hgrow5 (by simp; omega) (fun z hz => by have := hvo z hz; omega)
      have HO5 := Lib.hid (OwnSl.pushed rfl hown5 : OwnSl (W0.heap.size + 1 + 1) 89 4 R4.enc w5 (.slice (some ⟨g5, 0, none⟩) (rs.length + 1) cap5) (rs ++ [⟨.slice A0 N0 P0, .slice A1 N1 P1, .slice A2 N2 P2, .slice A3 N3 P3⟩]))
      have HAT := Lib.hid hat5
      have hg5 := World.ownsRow.lt hown5 g5 rfl
      clear hown5 hgrow5 hat5 b0 bf p0 p1 p2 p3 hs2 hl2 hB2
      gi_wp2
      have hl6 : (w5.setCell ⟨w.heap.size + 1 + 1 + 1 + 1, 0, none⟩ (.slice (some ⟨g5, 0, none⟩) (rs.length + 1) cap5)).heap[W0.heap.size + 1]? = some (.loop { rec with state := .busy }) := (Below.heap_setCell _ _ _ _ (by simp only; omega)).trans hl5
      have hend := run_endRound (P := Tryd.prog) none hl6
      refine ⟨_, _, hend, rfl, ?_⟩
      have hrr : ({ { rec with state := .busy } with state := if (none : Option Code).isNone then .ready else .done, pending := none } : Loop) = rec := by rw [HREC.out]; rfl
      rw [hrr]
      have hs7 : ∀ k, k < W.heap.size → k ≠ w.heap.size + 1 + 1 + 1 + 1 → k ≠ W0.heap.size + 1 → some k ≠ (Value.slice va rs.length vc).ownBlock → ((w5.setCell ⟨w.heap.size + 1 + 1 + 1 + 1, 0, none⟩ (.slice (some ⟨g5, 0, none⟩) (rs.length + 1) cap5)).putObj (W0.heap.size + 1) (.loop rec)).heap[k]? = W.heap[k]? := fun k k1 k2 k3 k4 =>
        (World.putObj_heap_other k3).trans ((Below.heap_setCell _ _ _ _ k2).trans (hs5 k k1 k3 k4))
      obtain ⟨W7, hW7⟩ : ∃ W7, (w5.setCell ⟨w.heap.size + 1 + 1 + 1 + 1, 0, none⟩ (.slice (some ⟨g5, 0, none⟩) (rs.length + 1) cap5)).putObj (W0.heap.size + 1) (.loop rec) = W7 := ⟨_, rfl⟩
      have hB7 : Below w.heap.size W W7 := by
        rw [← hW7]
        exact (hB5.setCell (p := ⟨w.heap.size + 1 + 1 + 1 + 1, 0, none⟩) (by simp only; omega) _).grown (grownBy_putObj' _ _ _) (by simp; omega) (fun k e => by cases e; omega)
      have hb7 : W7.cell? ⟨w.heap.size + 1 + 1 + 1 + 1, 0, none⟩ = some (.slice (some ⟨g5, 0, none⟩) (rs.length + 1) cap5) ∧ W7.frozen? ⟨w.heap.size + 1 + 1 + 1 + 1, 0, none⟩ = false := by
        have e : W7.heap[w.heap.size + 1 + 1 + 1 + 1]? = (w5.setCell ⟨w.heap.size + 1 + 1 + 1 + 1, 0, none⟩ (.slice (some ⟨g5, 0, none⟩) (rs.length + 1) cap5)).heap[w.heap.size + 1 + 1 + 1 + 1]? := by rw [← hW7]; exact World.putObj_heap_other (by omega)
        exact ⟨(World.cell?_of_block (a := ⟨w.heap.size + 1 + 1 + 1 + 1, 0, none⟩) e).trans (World.cell?_setCell_same' _ _ _ (by rw [b5]; rfl)), (World.frozen?_of_block (a := ⟨w.heap.size + 1 + 1 + 1 + 1, 0, none⟩) e).trans (by rw [World.frozen?_setCell]; exact bf5)⟩
      have hl7 : W7.heap[W0.heap.size + 1]? = some (.loop rec) := by rw [← hW7]; exact World.putObj_heap_same (by simp; omega)
      have hO7 : OwnSl (W0.heap.size + 1 + 1) 89 4 R4.enc W7 (.slice (some ⟨g5, 0, none⟩) (rs.length + 1) cap5) (rs ++ [⟨.slice A0 N0 P0, .slice A1 N1 P1, .slice A2 N2 P2, .slice A3 N3 P3⟩]) := OwnSl.keepB HO5.out (fun z z1 z2 z3 => by
        rw [← hW7]
        have z4 : W0.heap.size + 1 + 1 ≤ z := z2
        exact (World.putObj_heap_other (show z ≠ W0.heap.size + 1 by omega)).trans (Below.heap_setCell _ _ _ _ (show z ≠ w.heap.size + 1 + 1 + 1 + 1 by omega)))
      rw [hW7] at hs7 ⊢
      clear hW7
      have hob : obk (w.heap.size + 1 + 1 + 1 + 1) W7 = some g5 := by unfold obk; rw [hb7.1]; rfl
      have hg : ∀ k, k < W.heap.size → some k ≠ (Value.slice va rs.length vc).ownBlock → k ≠ g5 := fun k k1 k2 e => by
        rcases HAT.out with h' | h'
        · exact k2 (by rw [e]; exact h')
        · have h2 : some g5 = some (W2.heap.size + 1) := h'
          have := Option.some.inj h2
          omega
      have hkk : ∀ k, k < W.heap.size → ¬ PB X (w.heap.size + 1 + 1 + 1 + 1) (W0.heap.size + 1) h (Value.slice va rs.length vc).ownBlock k → W7.heap[k]? = W.heap[k]? ∧ ¬ PB X (w.heap.size + 1 + 1 + 1 + 1) (W0.heap.size + 1) h (some g5) k := fun k k1 k2 =>
        ⟨hs7 k k1 (fun e => k2 (.inl e)) (fun e => k2 (.inr (.inl e))) (fun e => k2 (.inr (.inr (.inr (.inl e))))), fun k3 => by
          rcases k3 with e | e | e | e | e
          · exact k2 (.inl e)
          · exact k2 (.inr (.inl e))
          · exact k2 (.inr (.inr (.inl e)))
          · exact hg k k1 (fun e => k2 (.inr (.inr (.inr (.inl e))))) (Option.some.inj e)
          · exact k2 (.inr (.inr (.inr (.inr e))))⟩
      have z7 := hB7.size
      have hres : ∀ k, k < w.heap.size + 1 + 1 + 1 + 1 → W7.heap[k]? = W.heap[k]? := fun k hk => hs7 k (by omega) (by omega) (by omega) (fun e => by have := hvo k e.symm; omega)
      have HQ := HQ5.out
      have HQQ := HSET.out
      rw [HQ3.out] at HQ HQQ
      rw [← HREC.out]
      refine ⟨⟨HJ.out.nm, HJ.out.nh, hl7, (hs7 W0.heap.size (by omega) (by omega) (by omega) (fun e => by have := hvo _ e.symm; omega)).trans HJ.out.rd, HJ.out.bl.trans hB7,
        (World.cell?_of_block (a := ⟨w.heap.size + 1 + 1, 0, none⟩) (hres _ (by simp only; omega))).trans HJ.out.r0, (World.frozen?_of_block (a := ⟨w.heap.size + 1 + 1, 0, none⟩) (hres _ (by simp only; omega))).trans HJ.out.f0,
        (World.cell?_of_block (a := ⟨w.heap.size + 1 + 1 + 1, 0, none⟩) (hres _ (by simp only; omega))).trans HJ.out.r1, (World.frozen?_of_block (a := ⟨w.heap.size + 1 + 1 + 1, 0, none⟩) (hres _ (by simp only; omega))).trans HJ.out.f1, hb7.2,
        _, _, hb7.1, hO7, fun e => hg h hh (fun e2 => q4 e2.symm) (Option.some.inj e).symm, ?_⟩, z7, fun k k1 k2 k3 k4 => ?_⟩
      · exact All2.snoc (HQ.mono (fun _ _ g => (All2.mono g (fun _ _ q => q.keep z7 hkk) : All2 _ _ _))) (All2.mono HQQ (fun _ _ q => q.keep z7 hkk))
      · rw [HQ3.out] at k4
        exact ⟨hs7 k k1 k2 k3 k4, by rw [hob]; exact fun e => hg k k1 k4 (Option.some.inj e)⟩
    · intro h pre W J
      obtain ⟨n1, n2, n3, n4, n5, n6⟩ := J.nm
      have zl := heap_lt J.rl
      have HREC := Lib.hid hrec
      have HJ := Lib.hid J
      have hal : Below W.heap.size W (W.alloc (.cells #[.slice none 0 0, .slice none 0 0, .slice none 0 0, .slice none 0 0] 89)) := (Below.refl _ _).alloc (Nat.le_refl _) _
      have hbr := run_beginRound (P := Tryd.prog) ((hal.block (W0.heap.size + 1) zl).trans J.rl) (by rw [hrec])
      refine ⟨rec.fn, _, rec.assign, rec.body, run_yield J.rl (by rw [hrec]; rfl), roundIn_of_wpIn trivial ?_⟩
      clear J
      rw [hrec]
      clear hrec
      gi_wp2
      refine ⟨_, hbr, ?_⟩
      obtain ⟨W2, hW2⟩ : ∃ W2, (W.alloc (.cells #[.slice none 0 0, .slice none 0 0, .slice none 0 0, .slice none 0 0] 89)).putObj (W0.heap.size + 1) (.loop { rec with state := .busy }) = W2 := ⟨_, rfl⟩
      have hs2 : ∀ k, k < W.heap.size → k ≠ W0.heap.size + 1 → W2.heap[k]? = W.heap[k]? := fun k k1 k2 => by rw [← hW2]; exact (World.putObj_heap_other k2).trans (hal.block k k1)
      have hl2 : W2.heap[W0.heap.size + 1]? = some (.loop { rec with state := .busy }) := by rw [← hW2]; exact World.putObj_heap_same (by simp; omega)
      have z2' : W.heap.size + 1 ≤ W2.heap.size := by rw [← hW2]; simp
      have hB2 : Below w.heap.size W W2 := by rw [← hW2]; exact (hal.mono (by omega)).grown (grownBy_putObj' _ _ _) (by simp; omega) (fun k e => by cases e; omega)
      rw [hW2]
      clear hW2 hbr
      have r0 := (World.cell?_of_block (a := ⟨w.heap.size + 1 + 1, 0, none⟩) (hs2 _ (by simp only; omega) (by simp only; omega))).trans HJ.out.r0
      have f0 := (World.frozen?_of_block (a := ⟨w.heap.size + 1 + 1, 0, none⟩) (hs2 _ (by simp only; omega) (by simp only; omega))).trans HJ.out.f0
      have r1 := (World.cell?_of_block (a := ⟨w.heap.size + 1 + 1 + 1, 0, none⟩) (hs2 _ (by simp only; omega) (by simp only; omega))).trans HJ.out.r1
      have f1 := (World.frozen?_of_block (a := ⟨w.heap.size + 1 + 1 + 1, 0, none⟩) (hs2 _ (by simp only; omega) (by simp only; omega))).trans HJ.out.f1
      have rd := (hs2 W0.heap.size (by omega) (by omega)).trans HJ.out.rd
      have hrb : Below w.heap.size w W2 := HJ.out.bl.trans hB2
      have z2 := hB2.size
      clear hs2 hB2
      gi_wp2
      rw [← HREC.out]
      have hl6 : ((W2.setCell ⟨w.heap.size + 1 + 1, 0, none⟩ (.slice none 0 0)).setCell ⟨w.heap.size + 1 + 1 + 1, 0, none⟩ (.bool false)).heap[W0.heap.size + 1]? = some (.loop { rec with state := .busy }) :=
        (Below.heap_setCell _ _ _ _ (by simp only; omega)).trans ((Below.heap_setCell _ _ _ _ (by simp only; omega)).trans hl2)
      have hsame : ∀ k, k ≠ W0.heap.size + 1 → k ≠ w.heap.size + 1 + 1 → k ≠ w.heap.size + 1 + 1 + 1 → ∀ o, (((W2.setCell ⟨w.heap.size + 1 + 1, 0, none⟩ (.slice none 0 0)).setCell ⟨w.heap.size + 1 + 1 + 1, 0, none⟩ (.bool false)).putObj (W0.heap.size + 1) o).heap[k]? = W2.heap[k]? := fun k k1 k2 k3 o =>
        (World.putObj_heap_other k1).trans ((Below.heap_setCell _ _ _ _ k3).trans (Below.heap_setCell _ _ _ _ k2))
      have hput : ∀ k, k ≠ W0.heap.size + 1 → ∀ o, (((W2.setCell ⟨w.heap.size + 1 + 1, 0, none⟩ (.slice none 0 0)).setCell ⟨w.heap.size + 1 + 1 + 1, 0, none⟩ (.bool false)).putObj (W0.heap.size + 1) o).heap[k]? = ((W2.setCell ⟨w.heap.size + 1 + 1, 0, none⟩ (.slice none 0 0)).setCell ⟨w.heap.size + 1 + 1 + 1, 0, none⟩ (.bool false)).heap[k]? := fun k k1 o => World.putObj_heap_other k1
      refine ⟨_, _, run_endRound (some .ret) hl6, rfl, ⟨World.putObj_heap_same (by simp; omega), (hsame W0.heap.size (by omega) (by omega) (by omega) _).trans rd, ?_, ?_, ?_, ?_, ?_⟩⟩
      · exact ((hrb.setCell (p := ⟨w.heap.size + 1 + 1, 0, none⟩) (by simp only; omega) _).setCell (p := ⟨w.heap.size + 1 + 1 + 1, 0, none⟩) (by simp only; omega) _).grown (grownBy_putObj' _ _ _) (by simp; omega) (fun k e => by cases e; omega)
      · refine (World.cell?_of_block (a := ⟨w.heap.size + 1 + 1, 0, none⟩) (hput _ (by simp only; omega) _)).trans ?_
        rw [World.cell?_setCell_other _ _ _ _ (fun e => by have := congrArg Addr.block e; simp only at this; omega)]
        exact World.cell?_setCell_same' _ _ _ (by rw [r0]; rfl)
      · refine (World.frozen?_of_block (a := ⟨w.heap.size + 1 + 1, 0, none⟩) (hput _ (by simp only; omega) _)).trans ?_
        rw [World.frozen?_setCell, World.frozen?_setCell]; exact f0
      · refine (World.cell?_of_block (a := ⟨w.heap.size + 1 + 1 + 1, 0, none⟩) (hput _ (by simp only; omega) _)).trans ?_
        refine World.cell?_setCell_same' _ _ _ ?_
        rw [World.cell?_setCell_other _ _ _ _ (fun e => by have := congrArg Addr.block e; simp only at this; omega), r1]; rfl
      · refine (World.frozen?_of_block (a := ⟨w.heap.size + 1 + 1 + 1, 0, none⟩) (hput _ (by simp only; omega) _)).trans ?_
        rw [World.frozen?_setCell, World.frozen?_setCell]; exact f1
  have HHR := Lib.hid HR
  clear HR
  refine (iter_in X (w.heap.size + 1 + 1 + 1 + 1) (W0.heap.size + 1) (w.heap.size + 1 + 1 + 1 + 1 + 1) (w.heap.size + 1 + 1 + 1 + 1 + 1 + 1) a b v0 v1 v2 v3 u0 u1 u2 u3 _ _ HHR.out W1 ((ht.below hb0).below (hbl1)) ha hb ?qn ?qc (by omega) (fun k hk => by have := hXX k hk; omega) ?qp HJ1).mono ?_
  case qn => exact ⟨by omega, by omega, by omega, by omega, by omega, by omega⟩
  case qc =>
    have hob : obk (w.heap.size + 1 + 1 + 1 + 1) W1 = none := by
      unfold obk
      rw [(hbl1.cell (p := ⟨w.heap.size + 1 + 1 + 1 + 1, 0, none⟩) (by simp only; omega)).trans cB.1]
      rfl
    have hbw := hb0.trans (hbl1.mono (by omega))
    refine ⟨by omega, by omega, by omega, by omega, fun j v hj => ?_, fun j v hj => ?_, by rw [hob]; exact fun e => (by cases e), by rw [hob]; exact fun e => (by cases e), by rw [hob]; exact fun e => (by cases e), ?_, ?_⟩
    · refine (hbl1.cell (p := ⟨w.heap.size + 1 + 1 + 1 + 1 + 1, j, none⟩) (by simp only; omega)).trans ?_
      rw [HCS.out]; simpa using hj
    · refine (hbl1.cell (p := ⟨w.heap.size + 1 + 1 + 1 + 1 + 1 + 1, j, none⟩) (by simp only; omega)).trans ?_
      rw [HCO.out]; simpa using hj
    · rw [hob]
      refine hs.mono (fun _ _ g => SpV.older g hbw (fun k hk => ?_))
      rcases hk with e | e | e | e | e <;> first | (exact .inr e) | (left; omega) | cases e
    · rw [hob]
      refine hu.mono (fun _ _ g => SpV.older g hbw (fun k hk => ?_))
      rcases hk with e | e | e | e | e <;> first | (exact .inr e) | (left; omega) | cases e
  case qp =>
    have hob : obk (w.heap.size + 1 + 1 + 1 + 1) W1 = none := by
      unfold obk
      rw [(hbl1.cell (p := ⟨w.heap.size + 1 + 1 + 1 + 1, 0, none⟩) (by simp only; omega)).trans cB.1]
      rfl
    have hbw := hb0.trans (hbl1.mono (by omega))
    intro h hh
    rw [hob]
    refine ⟨hs.mono (fun _ _ g => SpV.older g hbw (fun k hk => ?_)), hu.mono (fun _ _ g => SpV.older g hbw (fun k hk => ?_))⟩
    · rcases hk with e | e | e | e | e <;> first | (exact .inr e) | (left; omega) | cases e
    · rcases hk with e | e | e | e | e <;> first | (exact .inr e) | (left; omega) | cases e
  rintro e W2 ⟨⟨v, rfl⟩, (⟨h, hJ, hall⟩ | ⟨hX, hall⟩)⟩
  · have hel := run_endLoop (P := Tryd.prog) hJ.rl (by rw [hrec]; simp)
    have hpn : rec.pending = none := by rw [hrec]
    refine ⟨rec.pending, _, hel, ?_⟩
    obtain ⟨v, rs, q1, q2, q3, q4⟩ := hJ.own
    have zl := heap_lt hJ.rl
    have HALL := Lib.hid hall
    have HJ := Lib.hid hJ
    have HREC := Lib.hid hrec
    have hvo : ∀ z, v.ownBlock = some z → W0.heap.size + 1 + 1 ≤ z ∧ z < W2.heap.size := fun z hz => World.ownsRow.lt q2 z hz
    obtain ⟨va, vc, rfl⟩ : ∃ a c, v = .slice a rs.length c := by
      rcases OwnSl.form q2 with ⟨h, h'⟩ | ⟨g, c, h, _⟩
      · exact ⟨_, _, by rw [h', h]; rfl⟩
      · exact ⟨_, _, h⟩
    have HQ2 := Lib.hid q2
    have HQ4 := Lib.hid q4
    obtain ⟨W3, hW3⟩ : ∃ W3, W2.putObj (W0.heap.size + 1) (.loop { rec with state := .exhausted }) = W3 := ⟨_, rfl⟩
    have hs3 : ∀ k, k ≠ W0.heap.size + 1 → W3.heap[k]? = W2.heap[k]? := fun k hk => by rw [← hW3]; exact World.putObj_heap_other hk
    have z3 : W2.heap.size ≤ W3.heap.size := by rw [← hW3]; simp
    have z3' : W3.heap.size ≤ W2.heap.size := by rw [← hW3]; simp
    have hB3 : Below w.heap.size W2 W3 := by rw [← hW3]; exact (Below.refl _ _).grown (grownBy_putObj' _ _ _) (by omega) (fun k e => by cases e; omega)
    rw [hW3, hpn]
    clear hW3 hel hrec hpn
    have r0 := (World.cell?_of_block (a := ⟨w.heap.size + 1 + 1, 0, none⟩) (hs3 _ (by simp only; omega))).trans hJ.r0
    have f0 := (World.frozen?_of_block (a := ⟨w.heap.size + 1 + 1, 0, none⟩) (hs3 _ (by simp only; omega))).trans hJ.f0
    have r1 := (World.cell?_of_block (a := ⟨w.heap.size + 1 + 1 + 1, 0, none⟩) (hs3 _ (by simp only; omega))).trans hJ.r1
    have f1 := (World.frozen?_of_block (a := ⟨w.heap.size + 1 + 1 + 1, 0, none⟩) (hs3 _ (by simp only; omega))).trans hJ.f1
    have b0 := (World.cell?_of_block (a := ⟨w.heap.size + 1 + 1 + 1 + 1, 0, none⟩) (hs3 _ (by simp only; omega))).trans q1
    have hrd3 := (hs3 W0.heap.size (by omega)).trans hJ.rd
    clear hJ q1 q2 q4 hall
    gi_wp2
    have hD : ((W3.setCell ⟨w.heap.size + 1 + 1, 0, none⟩ (.slice va rs.length vc)).setCell ⟨w.heap.size + 1 + 1 + 1, 0, none⟩ (.bool true)).heap[W0.heap.size]? = some (.deferred (some [])) :=
      (Below.heap_setCell _ _ _ _ (by simp only; omega)).trans ((Below.heap_setCell _ _ _ _ (by simp only; omega)).trans hrd3)
    refine ⟨by simp, .inl ⟨_, _, rfl, run_takeDeferred hD, ?_⟩⟩
    obtain ⟨W4, hW4⟩ : ∃ W4, ((W3.setCell ⟨w.heap.size + 1 + 1, 0, none⟩ (.slice va rs.length vc)).setCell ⟨w.heap.size + 1 + 1 + 1, 0, none⟩ (.bool true)) = W4 := ⟨_, rfl⟩
    have hs4 : ∀ k, k ≠ w.heap.size + 1 + 1 → k ≠ w.heap.size + 1 + 1 + 1 → W4.heap[k]? = W3.heap[k]? := fun k k1 k2 => by rw [← hW4]; exact (Below.heap_setCell _ _ _ _ k2).trans (Below.heap_setCell _ _ _ _ k1)
    have hc4 : ∀ p : Addr, p ≠ ⟨w.heap.size + 1 + 1, 0, none⟩ → p ≠ ⟨w.heap.size + 1 + 1 + 1, 0, none⟩ → W4.cell? p = W3.cell? p := fun p k1 k2 => by rw [← hW4, World.cell?_setCell_other _ _ _ _ k2.symm, World.cell?_setCell_other _ _ _ _ k1.symm]
    have c0 : W4.cell? ⟨w.heap.size + 1 + 1, 0, none⟩ = some (.slice va rs.length vc) := by
      rw [← hW4, World.cell?_setCell_other _ _ _ _ (fun e => by have := congrArg Addr.block e; simp only at this; omega)]
      exact World.cell?_setCell_same' _ _ _ (by rw [r0]; rfl)
    have c1 : W4.cell? ⟨w.heap.size + 1 + 1 + 1, 0, none⟩ = some (.bool true) := by
      rw [← hW4]
      refine World.cell?_setCell_same' _ _ _ ?_
      rw [World.cell?_setCell_other _ _ _ _ (fun e => by have := congrArg Addr.block e; simp only at this; omega), r1]; rfl
    have z4 : W3.heap.size ≤ W4.heap.size := by rw [← hW4]; simp
    have hB4 : Below w.heap.size W3 W4 := by rw [← hW4]; exact ((Below.refl _ _).setCell (p := ⟨w.heap.size + 1 + 1, 0, none⟩) (by simp only; omega) _).setCell (p := ⟨w.heap.size + 1 + 1 + 1, 0, none⟩) (by simp only; omega) _
    rw [hW4] at hD ⊢
    clear hW4
    obtain ⟨W5, hW5⟩ : ∃ W5, W4.putObj W0.heap.size (.deferred none) = W5 := ⟨_, rfl⟩
    have hs5 : ∀ k, k ≠ W0.heap.size → W5.heap[k]? = W4.heap[k]? := fun k hk => by rw [← hW5]; exact World.putObj_heap_other hk
    have hB5 : Below w.heap.size W4 W5 := by rw [← hW5]; exact (Below.refl _ _).grown (grownBy_putObj' _ _ _) (by omega) (fun k e => by cases e; omega)
    have z5 := hB5.size
    rw [hW5]
    clear hW5
    have e0 := (World.cell?_of_block (a := ⟨w.heap.size + 1 + 1, 0, none⟩) (hs5 _ (by simp only; omega))).trans c0
    have e1 := (World.cell?_of_block (a := ⟨w.heap.size + 1 + 1 + 1, 0, none⟩) (hs5 _ (by simp only; omega))).trans c1
    refine ⟨.tuple #[.slice va rs.length vc, .bool true], by simp [results, Tryd.results97, go_sem, e0, e1], _, by rw [HALL.out], fun _ => ⟨rs, ?_, HQ4.out.mono (fun r bx g => (All2.mono g (fun vv xs q => ?_) : All2 _ _ _))⟩, HJ.out.bl.trans (hB3.trans (hB4.trans hB5))⟩
    · exact OwnSl.mono (OwnSl.keepB HQ2.out (fun z z1 z2 z3 => by
        have := hvo z z1
        exact (hs5 z (by omega)).trans ((hs4 z (by omega) (by omega)).trans (hs3 z (by omega))))) (by omega)
    · refine ⟨Sps.ints q.1 (by omega) (fun p n g2 => ?_), fun q' n c e hne hp => q.2 q' n c e hne (hp.elim (fun e => .inr (.inr (.inr (.inl e)))) (fun e => .inr (.inr (.inr (.inr e)))))⟩
      have n1 := not_cell HJ.out.rl rfl g2
      have n2 := not_cell HJ.out.rd rfl g2
      refine (World.cell?_of_block (hs5 p.block n2)).trans ((hc4 p (fun e => ?_) (fun e => ?_)).trans ((World.cell?_of_block (hs3 p.block n1)).trans g2))
      · rw [e, HJ.out.r0] at g2; cases g2
      · rw [e, HJ.out.r1] at g2; cases g2
  · have hel := run_endLoop (P := Tryd.prog) hX.rl (by simp)
    refine ⟨some .ret, _, hel, ?_⟩
    gi_wp2
    refine ⟨by simp, .inl ⟨_, _, rfl, run_takeDeferred ((World.putObj_heap_other (by omega)).trans hX.rd), ?_⟩⟩
    obtain ⟨W3, hW3⟩ : ∃ W3, W2.putObj (W0.heap.size + 1) (.loop { ({ rec with state := .done, pending := some .ret } : Loop) with state := .exhausted }) = W3 := ⟨_, rfl⟩
    have hs3 : ∀ k, k ≠ W0.heap.size + 1 → W3.heap[k]? = W2.heap[k]? := fun k hk => by rw [← hW3]; exact World.putObj_heap_other hk
    have z3 : W2.heap.size ≤ W3.heap.size := by rw [← hW3]; simp
    have hB3 : Below w.heap.size W2 W3 := by rw [← hW3]; exact (Below.refl _ _).grown (grownBy_putObj' _ _ _) (by have := hX.bl.size; omega) (fun k e => by cases e; omega)
    have HALL := Lib.hid hall
    have HX := Lib.hid hX
    rw [hrec] at hW3
    rw [hW3]
    clear hW3 hel hrec hX hall
    obtain ⟨W5, hW5⟩ : ∃ W5, W3.putObj W0.heap.size (.deferred none) = W5 := ⟨_, rfl⟩
    have hs5 : ∀ k, k ≠ W0.heap.size → W5.heap[k]? = W3.heap[k]? := fun k hk => by rw [← hW5]; exact World.putObj_heap_other hk
    have hB5 : Below w.heap.size W3 W5 := by rw [← hW5]; exact (Below.refl _ _).grown (grownBy_putObj' _ _ _) (by have := HX.out.bl.size; omega) (fun k e => by cases e; omega)
    rw [hW5]
    clear hW5
    have e0 := (World.cell?_of_block (a := ⟨w.heap.size + 1 + 1, 0, none⟩) ((hs5 _ (by simp only; omega)).trans (hs3 _ (by simp only; omega)))).trans HX.out.r0
    have e1 := (World.cell?_of_block (a := ⟨w.heap.size + 1 + 1 + 1, 0, none⟩) ((hs5 _ (by simp only; omega)).trans (hs3 _ (by simp only; omega)))).trans HX.out.r1
    exact ⟨.tuple #[.slice none 0 0, .bool false], by simp [results, Tryd.results97, go_sem, e0, e1], _, by rw [HALL.out], fun h => (by rw [HALL.out] at h; cases h), HX.out.bl.trans (hB3.trans hB5)⟩
theorem cut_r {X : Nat → Prop} {a b : Bx} {v0 v1 v2 v3 u0 u1 u2 u3 : Value} {w : World} {r : Bool} (h : (bcut a b).all bvalid = r) (ht : Tab w) (hXX : ∀ k, X k → k < w.heap.size) (hs : All2 (SpV X w) [v0, v1, v2, v3] a) (hu : All2 (SpV X w) [u0, u1, u2, u3] b) (ha : bvalid a = true) (hb : bvalid b = true) :
    Calls Tryd.prog 97 #[.agg #[v0, v1, v2, v3], .agg #[u0, u1, u2, u3]] w fun e w' => ∃ z, e = .returned (.tuple #[z, .bool r]) ∧ (r = true → SdO X w.heap.size w' z (bcut a b)) ∧ Below w.heap.size w w' := by
  subst h
  exact cut_any X a b v0 v1 v2 v3 u0 u1 u2 u3 w ht hXX hs hu ha hb
theorem bless1_succ {L : List Bx} {x p : Bx} {j : Nat} (h : L[j]? = some p) : bless1 (L.take (j + 1)) x = bless1 (L.take j) x ++ bcut p x := by
  unfold bless1
  rw [List.take_add_one, h, List.flatMap_append]
  simp
theorem bless1_split {L : List Bx} {x p : Bx} {j : Nat} (h : L[j]? = some p) : bless1 L x = bless1 (L.take j) x ++ bcut p x ++ bless1 (L.drop (j + 1)) x := by
  conv => lhs; rw [split_at h]
  unfold bless1
  rw [List.flatMap_append, List.flatMap_cons, List.append_assoc]
theorem bless1_bad {L : List Bx} {x p : Bx} {j : Nat} (h : L[j]? = some p) (hb : (bcut p x).all bvalid = false ∨ 400 < (bless1 (L.take j) x).length + (bcut p x).length) : rvalid (bless1 L x) = false := by
  rw [← Bool.not_eq_true]
  intro hv
  obtain ⟨h1, h2⟩ := rvalid_all hv
  rw [bless1_split h] at h1 h2
  rcases hb with hb | hb
  · rw [← Bool.not_eq_true, List.all_eq_true] at hb
    exact hb (fun z hz => h2 z (by simp [hz]))
  · simp only [List.length_append] at h1
    omega
theorem bless_bad {L : List Bx} {x : Bx} {xs : List Bx} (h : rvalid (bless1 L x) = false) : bless L (x :: xs) = none := by
  unfold bless; rw [h]; rfl
theorem bless_ok {L : List Bx} {x : Bx} {xs : List Bx} (h : rvalid (bless1 L x) = true) : bless L (x :: xs) = bless (bless1 L x) xs := by
  conv => lhs; unfold bless
  rw [h]; rfl
theorem drop_cons {α : Type} {xs : List α} {k : Nat} {x : α} (h : xs[k]? = some x) : xs.drop k = x :: xs.drop (k + 1) := by
  obtain ⟨h1, h2⟩ := List.getElem?_eq_some_iff.1 h
  rw [List.drop_eq_getElem_cons h1, h2]
/-- Boxes whose sets lie in no block of X. -/
def IssX (X : Nat → Prop) (w : World) (v : Value) (bs : List Bx) : Prop := ∃ rs, SlFr 0 4 R4.enc w v rs ∧ All2 (fun (r : R4) b => All2 (SpV X w) [r.v0, r.v1, r.v2, r.v3] b) rs bs
theorem IssX.iss {X : Nat → Prop} {w : World} {v : Value} {bs : List Bx} (h : IssX X w v bs) : Iss 0 w v bs :=
  let ⟨rs, h1, h2⟩ := h
  ⟨rs, h1, h2.mono (fun _ _ g => (All2.mono g (fun _ _ q => q.1) : All2 _ _ _))⟩
theorem IssX.below {X : Nat → Prop} {w w' : World} {v : Value} {bs : List Bx} (h : IssX X w v bs) (hb : Below w.heap.size w w') : IssX X w' v bs :=
  let ⟨rs, h1, h2⟩ := h
  ⟨rs, h1.below hb, h2.mono (fun _ _ g => (All2.mono g (fun _ _ q => q.below hb) : All2 _ _ _))⟩
theorem IssX.form {X : Nat → Prop} {w : World} {v : Value} {bs : List Bx} (h : IssX X w v bs) : ∃ a cap, v = .slice a bs.length cap ∧ bs.length ≤ cap ∧ cap ≤ maxLen := h.iss.form
theorem IssX.sub {X X' : Nat → Prop} {w : World} {v : Value} {bs : List Bx} (h : IssX X w v bs) (hX : ∀ k, X' k → X k) : IssX X' w v bs :=
  let ⟨rs, h1, h2⟩ := h
  ⟨rs, h1, h2.mono (fun _ _ g => (All2.mono g (fun _ _ q => q.sub hX) : All2 _ _ _))⟩
theorem IssX.at {X : Nat → Prop} {w : World} {a : Option Addr} {n cap : Nat} {bs : List Bx} (h : IssX X w (.slice a n cap) bs) {k : Nat} {f : Bx} (hk : bs[k]? = some f) :
    ∃ b o v0 v1 v2 v3, a = some ⟨b, o, none⟩ ∧ b < w.heap.size ∧ w.cell? ⟨b, o + k * 4, none⟩ = some v0 ∧ w.cell? ⟨b, o + k * 4 + 1, none⟩ = some v1 ∧ w.cell? ⟨b, o + k * 4 + 2, none⟩ = some v2 ∧ w.cell? ⟨b, o + k * 4 + 3, none⟩ = some v3 ∧ All2 (SpV X w) [v0, v1, v2, v3] f := by
  obtain ⟨rs, ⟨a', cap', he, _, _, hx⟩, h2⟩ := h
  obtain ⟨rfl, _, _⟩ := Value.slice.inj he
  obtain ⟨r, hr, hs⟩ := h2.left hk
  obtain ⟨b, o, ha, _, hb, hc⟩ := hx k r hr
  exact ⟨b, o, r.v0, r.v1, r.v2, r.v3, ha, hb, by simpa using hc 0 _ rfl, hc 1 _ rfl, hc 2 _ rfl, hc 3 _ rfl, hs⟩
theorem Iss.old {X : Nat → Prop} {lo : Nat} {w0 w : World} {v : Value} {bs : List Bx} (h : Iss lo w0 v bs) (hb : Below w0.heap.size w0 w) (hX : ∀ k, X k → w0.heap.size ≤ k) : IssX X w v bs :=
  let ⟨rs, h1, h2⟩ := h
  ⟨rs, (h1.mono (Nat.zero_le _)).below hb, h2.mono (fun _ _ g => (All2.mono g (fun _ _ q => SpV.old q hb hX) : All2 _ _ _))⟩
theorem Iss.x {lo : Nat} {w : World} {v : Value} {bs : List Bx} (h : Iss lo w v bs) : IssX (fun _ => False) w v bs :=
  let ⟨rs, h1, h2⟩ := h
  ⟨rs, h1.mono (Nat.zero_le _), h2.mono (fun _ _ g => (All2.mono g (fun _ _ q => SpV.no q) : All2 _ _ _))⟩
/-- Boxes in a list of the call's own under way. -/
def NX (X : Nat → Prop) (lo : Nat) (w : World) (v : Value) (bs : List Bx) : Prop :=
  ∃ rs, OwnSl lo 89 4 R4.enc w v rs ∧ All2 (fun (r : R4) b => All2 (SpV (fun k => some k = v.ownBlock ∨ X k) w) [r.v0, r.v1, r.v2, r.v3] b) rs bs
theorem NX.issx {X : Nat → Prop} {lo : Nat} {w : World} {v : Value} {bs : List Bx} (h : NX X lo w v bs) : IssX X w v bs := by
  obtain ⟨rs, h1, h2⟩ := h
  exact ⟨rs, SlFr.mono (OwnSl.fr (sz := 4) (enc := R4.enc) (fun _ => rfl) h1) (Nat.zero_le _), h2.mono (fun _ _ g => (All2.mono g (fun _ _ q => q.sub (fun _ h => .inr h)) : All2 _ _ _))⟩
theorem NX.iss {X : Nat → Prop} {lo : Nat} {w : World} {v : Value} {bs : List Bx} (h : NX X lo w v bs) : Iss 0 w v bs := by
  obtain ⟨rs, h1, h2⟩ := h
  exact ⟨rs, SlFr.mono (OwnSl.fr (sz := 4) (enc := R4.enc) (fun _ => rfl) h1) (Nat.zero_le _), h2.mono (fun _ _ g => (All2.mono g (fun _ _ q => q.1) : All2 _ _ _))⟩
theorem NX.below {X : Nat → Prop} {lo : Nat} {w w' : World} {v : Value} {bs : List Bx} (h : NX X lo w v bs) (hb : Below w.heap.size w w') : NX X lo w' v bs := by
  obtain ⟨rs, h1, h2⟩ := h
  exact ⟨rs, OwnSl.kept h1 hb, h2.mono (fun _ _ g => (All2.mono g (fun _ _ q => q.keep hb.size (fun k k1 k2 => ⟨hb.block k k1, k2⟩)) : All2 _ _ _))⟩
theorem NX.form {X : Nat → Prop} {lo : Nat} {w : World} {v : Value} {bs : List Bx} (h : NX X lo w v bs) : ∃ a c, v = .slice a bs.length c := by
  obtain ⟨rs, h1, h2⟩ := h
  rw [← h2.1]
  rcases OwnSl.form h1 with ⟨h, h'⟩ | ⟨g, c, h, _⟩
  · exact ⟨_, _, by rw [h', h]; rfl⟩
  · exact ⟨_, _, h⟩
/-- The pieces are put behind those that are there. -/
theorem NX.push {X : Nat → Prop} {lo : Nat} {w w2 : World} {v v' : Value} {bs cs : List Bx} {ws : List R4} {H : Nat} (hc : All2 (fun (r : R4) b => All2 (SpV (fun k => some k = v.ownBlock ∨ X k) w) [r.v0, r.v1, r.v2, r.v3] b) ws cs)
    (hg : w.heap.size ≤ w2.heap.size ∧ ∀ k, k < w.heap.size → some k ≠ v.ownBlock → w2.heap[k]? = w.heap[k]?) (hat : ∀ z, v'.ownBlock = some z → v.ownBlock = some z ∨ z = H) (hH : w.heap.size ≤ H) {rs : List R4}
    (h2 : All2 (fun (r : R4) b => All2 (SpV (fun k => some k = v.ownBlock ∨ X k) w) [r.v0, r.v1, r.v2, r.v3] b) rs bs) (hown : OwnSl lo 89 4 R4.enc w2 v' (rs ++ ws)) : NX X lo w2 v' (bs ++ cs) := by
  have key : ∀ k, k < w.heap.size → ¬ (some k = v.ownBlock ∨ X k) → w2.heap[k]? = w.heap[k]? ∧ ¬ (some k = v'.ownBlock ∨ X k) := fun k k1 k2 => ⟨hg.2 k k1 (fun e => k2 (.inl e)), fun e => by
    rcases e with e | e
    · rcases hat k e.symm with h | h
      · exact k2 (.inl h.symm)
      · omega
    · exact k2 (.inr e)⟩
  refine ⟨rs ++ ws, hown, ?_⟩
  have e1 := h2.mono (S := fun (r : R4) b => All2 (SpV (fun k => some k = v'.ownBlock ∨ X k) w2) [r.v0, r.v1, r.v2, r.v3] b) (fun _ _ g => All2.mono g (fun _ _ q => q.keep hg.1 key))
  have e2 := hc.mono (S := fun (r : R4) b => All2 (SpV (fun k => some k = v'.ownBlock ∨ X k) w2) [r.v0, r.v1, r.v2, r.v3] b) (fun _ _ g => All2.mono g (fun _ _ q => q.keep hg.1 key))
  refine ⟨by rw [List.length_append, List.length_append, e1.1, e2.1], fun k x y hx hy => ?_⟩
  by_cases hk : k < rs.length
  · rw [List.getElem?_append_left hk] at hx
    rw [List.getElem?_append_left (by rw [← e1.1]; exact hk)] at hy
    exact e1.2 k x y hx hy
  · rw [List.getElem?_append_right (by omega)] at hx
    rw [List.getElem?_append_right (by rw [← e1.1]; omega), ← e1.1] at hy
    exact e2.2 _ x y hx hy
theorem run_append_nothing {P : Program} {w : World} (t ty e : TypeId) (i : TypeInfo) (ht : P.underlying t = some (.slice e)) (hi : P.info? e = some i) (a b : Option Addr) (n cap : Nat) (hn : n ≤ cap) (c : Nat) (ha : a = none → n = 0 ∧ cap = 0) :
    (Builtin.append_ #[t, t] ty #[.slice a n cap, .slice b 0 c]).run P w = .ok (.slice a n cap) w := by
  have hz0 : ∀ w, (Builtin.firstCells i.size 0 (.slice b 0 c)).run P w = .ok #[] w := fun w => by
    cases b <;> simp [Builtin.firstCells, loadCells, loadCellsFrom]
  cases a with
  | some ad => simp [Builtin.append_, run_underlying ht, sizeOf, typeInfo, hi, Builtin.lenOf, hz0, storeCells, Result.andThen, hn]
  | none =>
    obtain ⟨rfl, rfl⟩ := ha rfl
    simp [Builtin.append_, run_underlying ht, sizeOf, typeInfo, hi, Builtin.lenOf, hz0, Result.andThen]
set_option maxHeartbeats 4000000 in
set_option maxRecDepth 100000 in
theorem lessX_any {X : Nat → Prop} (b : Bx) (xs : List Bx) (v0 v1 v2 v3 v : Value) (w : World) (ht : Tab w) (hXX : ∀ k, X k → k < w.heap.size) (hs : All2 (SpV X w) [v0, v1, v2, v3] b) (hr : IssX X w v xs) (hb : bvalid b = true) (hx : ∀ (k : Nat) x, xs[k]? = some x → bvalid x = true) :
    Calls Tryd.prog 67 #[.agg #[v0, v1, v2, v3], v] w fun e w' => ∃ z, e = .returned (.tuple #[z, .bool (blessB b xs).isSome]) ∧ (∀ ys, blessB b xs = some ys → IssX X w' z ys) ∧ Below w.heap.size w w' := by
  obtain ⟨a, cap, rfl, hlc, hcm⟩ := hr.form
  unfold maxLen at hcm
  obtain ⟨A0, N0, P0, A1, N1, P1, A2, N2, P2, A3, N3, P3, rfl, rfl, rfl, rfl⟩ := sl4_form (hs.mono (fun _ _ g => g.1))
  obtain ⟨i0, hi, hy0, hy1, hy2⟩ := info_parts infoSd
  generalize hn : xs.length = n at *
  have HN := Lib.hid hn
  have HS := Lib.hid hs
  have HR := Lib.hid hr
  have HX := Lib.hid hx
  have hal : Below w.heap.size w (w.alloc (.cells #[.slice A0 N0 P0, .slice A1 N1 P1, .slice A2 N2 P2, .slice A3 N3 P3] 89)) := (Below.refl _ _).alloc (Nat.le_refl _) _
  obtain ⟨em, hem⟩ : ∃ em, bempty b = em := ⟨_, rfl⟩
  have HE := Lib.hid hem
  clear hn hs hr hx
  go_enter Tryd.func67, Tryd.ntmps67
  go_wp2_with fail
  refine (empty_b (HS.out.mono (fun _ _ g => (g.below hal).1)) hem).mono ?_
  rintro e w1 ⟨rfl, hb1⟩
  have hw1 : Below w.heap.size w w1 := hal.trans (hb1.mono (by simp))
  have hz1 := hb1.size
  simp only [World.size_alloc] at hz1
  have hzw : w.heap.size < (w.alloc (.cells #[.slice A0 N0 P0, .slice A1 N1 P1, .slice A2 N2 P2, .slice A3 N3 P3] 89)).heap.size := by simp
  have q0 := (hb1.cell (p := ⟨w.heap.size, 0, none⟩) hzw).trans (by simp : (w.alloc (.cells #[.slice A0 N0 P0, .slice A1 N1 P1, .slice A2 N2 P2, .slice A3 N3 P3] 89)).cell? ⟨w.heap.size, 0, none⟩ = some (.slice A0 N0 P0))
  have q1 := (hb1.cell (p := ⟨w.heap.size, 1, none⟩) hzw).trans (by simp : (w.alloc (.cells #[.slice A0 N0 P0, .slice A1 N1 P1, .slice A2 N2 P2, .slice A3 N3 P3] 89)).cell? ⟨w.heap.size, 1, none⟩ = some (.slice A1 N1 P1))
  have q2 := (hb1.cell (p := ⟨w.heap.size, 2, none⟩) hzw).trans (by simp : (w.alloc (.cells #[.slice A0 N0 P0, .slice A1 N1 P1, .slice A2 N2 P2, .slice A3 N3 P3] 89)).cell? ⟨w.heap.size, 2, none⟩ = some (.slice A2 N2 P2))
  have q3 := (hb1.cell (p := ⟨w.heap.size, 3, none⟩) hzw).trans (by simp : (w.alloc (.cells #[.slice A0 N0 P0, .slice A1 N1 P1, .slice A2 N2 P2, .slice A3 N3 P3] 89)).cell? ⟨w.heap.size, 3, none⟩ = some (.slice A3 N3 P3))
  clear hb1 hzw hal hem
  cases em
  · have HBS := Lib.hid (show bstart b = [b] by unfold bstart; rw [HE.out]; rfl)
    have hal2 : Below w1.heap.size w1 (w1.alloc (.cells #[.slice A0 N0 P0, .slice A1 N1 P1, .slice A2 N2 P2, .slice A3 N3 P3] 89)) := (Below.refl _ _).alloc (Nat.le_refl _) _
    have HL0 := Lib.hid (show IssX X (w1.alloc (.cells #[.slice A0 N0 P0, .slice A1 N1 P1, .slice A2 N2 P2, .slice A3 N3 P3] 89)) (.slice (some ⟨w1.heap.size, 0, none⟩) 1 1) [b] from by
      refine ⟨[⟨.slice A0 N0 P0, .slice A1 N1 P1, .slice A2 N2 P2, .slice A3 N3 P3⟩], ⟨_, _, rfl, by simp, by simp [maxLen], fun k x hk => ?_⟩, rfl, fun k x y hk hy => ?_⟩
      · match k, hk with
        | 0, hk =>
          cases hk
          refine ⟨_, _, rfl, Nat.zero_le _, by simp, fun j u hj => ?_⟩
          match j, hj with
          | 0, hj => cases hj; simp
          | 1, hj => cases hj; simp
          | 2, hj => cases hj; simp
          | 3, hj => cases hj; simp
          | j + 4, hj => simp at hj
        | k + 1, hk => simp at hk
      · match k, hk, hy with
        | 0, hk, hy =>
          cases hk
          cases hy
          exact HS.out.mono (fun _ _ g => (g.below hw1).below hal2)
        | k + 1, hk, hy => simp at hk)
    go_wp2_with fail
    go_loopw [6, 20] (fun o i wr => ∃ (k : Nat) (L : List Bx), k ≤ n ∧ i = .int .i64 k ∧ Hid (IssX X wr o L) ∧ Hid (rvalid L = true) ∧ Hid (blessB b xs = bless L (xs.drop k)) ∧ Below w.heap.size w wr) (fun _ i _ => n - (intOf i).toNat)
    case atStart => exact ⟨0, [b], by omega, rfl, HL0, Lib.hid (by simp [rvalid, hb]), Lib.hid (by unfold blessB; rw [HBS.out]; rfl), hw1.alloc (by omega) _⟩
    case round =>
      obtain ⟨k, L, hk, rfl, HL, HV, HB, hbr⟩ := hrel
      clear HL0
      have hzr := hbr.size
      by_cases hlt : k < n
      · have i1 : (k : Int) < (n : Int) := by omega
        have i2 : (0 : Int) ≤ (k : Int) := by omega
        obtain ⟨x, hxk⟩ : ∃ x, xs[k]? = some x := ⟨_, List.getElem?_eq_getElem (by rw [HN.out]; exact hlt)⟩
        obtain ⟨bb, o, t0, t1, t2, t3, rfl, hbl, c0, c1, c2, c3, hts⟩ := (HR.out.below hbr).at hxk
        obtain ⟨B0, M0, Q0, B1, M1, Q1, B2, M2, Q2, B3, M3, Q3, rfl, rfl, rfl, rfl⟩ := sl4_form (hts.mono (fun _ _ g => g.1))
        obtain ⟨la, lc, rfl, hl1, hl2⟩ := HL.out.form
        unfold maxLen at hl2
        have HTS := Lib.hid hts
        have HXV := Lib.hid (HX.out k x hxk)
        have HXK := Lib.hid (drop_cons hxk)
        obtain ⟨hL4, hLv⟩ := rvalid_all HV.out
        have HLV := Lib.hid hLv
        obtain ⟨m, hm⟩ : ∃ m, L.length = m := ⟨_, rfl⟩
        have HM := Lib.hid hm
        rw [hm] at hl1 hL4 ⊢
        have halx : Below wr.heap.size wr (wr.alloc (.cells #[.slice B0 M0 Q0, .slice B1 M1 Q1, .slice B2 M2 Q2, .slice B3 M3 Q3] 89)) := (Below.refl _ _).alloc (Nat.le_refl _) _
        have hxb : ∀ j u, [Value.slice B0 M0 Q0, .slice B1 M1 Q1, .slice B2 M2 Q2, .slice B3 M3 Q3][j]? = some u → (wr.alloc (.cells #[.slice B0 M0 Q0, .slice B1 M1 Q1, .slice B2 M2 Q2, .slice B3 M3 Q3] 89)).cell? ⟨wr.heap.size, j, none⟩ = some u := fun j u hj => by
          match j, hj with
          | 0, hj => cases hj; simp
          | 1, hj => cases hj; simp
          | 2, hj => cases hj; simp
          | 3, hj => cases hj; simp
          | j + 4, hj => simp at hj
        have hzI : wr.heap.size < (wr.alloc (.cells #[.slice B0 M0 Q0, .slice B1 M1 Q1, .slice B2 M2 Q2, .slice B3 M3 Q3] 89)).heap.size := by simp
        clear hts hxk hLv hm
        go_wp2_with fail
        obtain ⟨wI, hwI⟩ : ∃ wI, (wr.alloc (.cells #[.slice B0 M0 Q0, .slice B1 M1 Q1, .slice B2 M2 Q2, .slice B3 M3 Q3] 89)) = wI := ⟨_, rfl⟩
        rw [hwI] at halx hxb hzI ⊢
        have hwI2 : Below w.heap.size w wI := hbr.trans (halx.mono hzr)
        have HLI := Lib.hid (show IssX X wI (.slice la m lc) L by have := HL.out.below halx; rwa [HM.out] at this)
        have HXB := Lib.hid (show ∀ w', Below wI.heap.size wI w' → ∀ j u, [Value.slice B0 M0 Q0, .slice B1 M1 Q1, .slice B2 M2 Q2, .slice B3 M3 Q3][j]? = some u → w'.cell? ⟨wr.heap.size, j, none⟩ = some u from fun w' hb j u hj => (hb.cell (p := ⟨wr.heap.size, j, none⟩) hzI).trans (hxb j u hj))
        clear hwI hxb c0 c1 c2 c3
        go_loopw [9, 26] (fun o i wr2 => ∃ j : Nat, j ≤ m ∧ i = .int .i64 j ∧ Hid (NX X wI.heap.size wr2 o (bless1 (L.take j) x)) ∧ Hid (rvalid (bless1 (L.take j) x) = true) ∧ Below wI.heap.size wI wr2) (fun _ i _ => m - (intOf i).toNat)
        case atStart => exact ⟨0, by omega, rfl, Lib.hid ⟨[], World.ownsRow_nil _ _ _ _, All2.nil⟩, Lib.hid rfl, Below.refl _ _⟩
        case round =>
          obtain ⟨j, hj, rfl, HO, HVN, hbI⟩ := hrel
          have hzI2 := hbI.size
          have hwr := hwI2.trans (hbI.mono hwI2.size)
          obtain ⟨oa, oc, rfl⟩ := HO.out.form
          obtain ⟨hN4, hNv⟩ := rvalid_all HVN.out
          by_cases hlj : j < m
          · have i3 : (j : Int) < (m : Int) := by omega
            have i4 : (0 : Int) ≤ (j : Int) := by omega
            obtain ⟨p, hp⟩ : ∃ p, L[j]? = some p := ⟨_, List.getElem?_eq_getElem (by rw [HM.out]; exact hlj)⟩
            obtain ⟨lb, lo2, s0, s1, s2, s3, rfl, hbl2, d0, d1, d2, d3, hps⟩ := HLI.out.at hp
            obtain ⟨C0, K0, E0, C1, K1, E1, C2, K2, E2, C3, K3, E3, rfl, rfl, rfl, rfl⟩ := sl4_form (hps.mono (fun _ _ g => g.1))
            have HPS := Lib.hid hps
            have HPV := Lib.hid (HLV.out p (List.mem_of_getElem? hp))
            have HP := Lib.hid hp
            replace d0 := (hbI.cell (p := ⟨lb, lo2 + j * 4, none⟩) hbl2).trans d0
            replace d1 := (hbI.cell (p := ⟨lb, lo2 + j * 4 + 1, none⟩) hbl2).trans d1
            replace d2 := (hbI.cell (p := ⟨lb, lo2 + j * 4 + 2, none⟩) hbl2).trans d2
            replace d3 := (hbI.cell (p := ⟨lb, lo2 + j * 4 + 3, none⟩) hbl2).trans d3
            have e0 := HXB.out _ hbI 0 _ rfl
            have e1 := HXB.out _ hbI 1 _ rfl
            have e2 := HXB.out _ hbI 2 _ rfl
            have e3 := HXB.out _ hbI 3 _ rfl
            obtain ⟨r, hr⟩ : ∃ r, (bcut p x).all bvalid = r := ⟨_, rfl⟩
            have HRR := Lib.hid hr
            have halp : Below wr.heap.size wr (wr.alloc (.cells #[.slice C0 K0 E0, .slice C1 K1 E1, .slice C2 K2 E2, .slice C3 K3 E3] 89)) := (Below.refl _ _).alloc (Nat.le_refl _) _
            have hown : ∀ z, (Value.slice oa (bless1 (L.take j) x).length oc).ownBlock = some z → wI.heap.size ≤ z ∧ z < wr.heap.size := fun z hz => by
              obtain ⟨rs, g1, g2⟩ := HO.out
              exact World.ownsRow.lt g1 z hz
            have hwIa : Below wI.heap.size wI (wr.alloc (.cells #[.slice C0 K0 E0, .slice C1 K1 E1, .slice C2 K2 E2, .slice C3 K3 E3] 89)) := hbI.trans (halp.mono hzI2)
            have hxz := Nat.lt_of_lt_of_le hzI hzI2
            clear hps hp hr
            go_wp2_with fail
            refine (cut_r (X := fun k => some k = (Value.slice oa (bless1 (L.take j) x).length oc).ownBlock ∨ X k) HRR.out (ht.below (hwr.trans (halp.mono hwr.size))) (fun k hk => hk.elim (fun hk => by have := (hown k hk.symm).2; simp; omega) (fun hk => by have := hXX k hk; have := hwr.size; simp; omega)) (HPS.out.mono (fun _ _ g => SpV.older g hwIa (fun k hk => hk.elim (fun hk => .inl (hown k hk.symm).1) .inr))) (HTS.out.mono (fun _ _ g => SpV.older g (halx.trans (hwIa.mono (by omega))) (fun k hk => hk.elim (fun hk => .inl (by have := (hown k hk.symm).1; omega)) .inr))) HPV.out HXV.out).mono ?_
            rintro e w5 ⟨z, rfl, hz5, hb5⟩
            have hw5 : Below wI.heap.size wI w5 := hwIa.trans (hb5.mono hwIa.size)
            have hbw5 : Below wr.heap.size wr w5 := halp.trans (hb5.mono halp.size)
            have hz5w := hw5.size
            have HO5 := Lib.hid (HO.out.below hbw5)
            have HBW := Lib.hid (hwI2.trans (hw5.mono hwI2.size))
            clear d0 d1 d2 d3 e0 e1 e2 e3 halp hb5 hwIa hbw5
            cases r
            · have HE2 := Lib.hid (show blessB b xs = none by rw [HB.out, HXK.out]; exact bless_bad (bless1_bad HP.out (.inl HRR.out)))
              clear hz5
              go_wp2_with fail
              go_ret2
              exact ⟨_, by rw [HE2.out]; rfl, fun ys h => (by rw [HE2.out] at h; cases h), HBW.out⟩
            · obtain ⟨ws, g1, g2⟩ := hz5 rfl
              have HW1 := Lib.hid g1
              have HW2 := Lib.hid g2
              obtain ⟨za, zc, rfl⟩ : ∃ a c, z = .slice a (bcut p x).length c := by
                rw [← g2.1]
                rcases OwnSl.form g1 with ⟨h, h'⟩ | ⟨g, c, h, _⟩
                · exact ⟨_, _, by rw [h', h]; rfl⟩
                · exact ⟨_, _, h⟩
              clear hz5 g1 g2
              have hc4 := bcut_len p x
              obtain ⟨N, hN⟩ : ∃ N, bless1 (L.take j) x = N := ⟨_, rfl⟩
              have HNN := Lib.hid hN
              rw [hN] at hN4 hNv hown HO5 HO HVN HW2 ⊢
              obtain ⟨K, hK⟩ : ∃ K, bcut p x = K := ⟨_, rfl⟩
              have HKK := Lib.hid hK
              rw [hK] at hc4 HW2 HW1 HRR ⊢
              clear hN hK
              have hcl : (0 : Int) ≤ (K.length : Int) := by omega
              have HCC := Lib.hid (show bless1 (L.take (j + 1)) x = N ++ K by rw [bless1_succ HP.out, HNN.out, HKK.out])
              by_cases hbig : 400 < N.length + K.length
              · have HE2 := Lib.hid (show blessB b xs = none by rw [HB.out, HXK.out]; exact bless_bad (bless1_bad HP.out (.inr (by rw [HNN.out, HKK.out]; exact hbig))))
                have hb2 : (400 : Int) < (N.length : Int) + (K.length : Int) := by omega
                go_wp2_with fail
                go_ret2
                exact ⟨_, by rw [HE2.out]; rfl, fun ys h => (by rw [HE2.out] at h; cases h), HBW.out⟩
              · have hb2 : ¬ (400 : Int) < (N.length : Int) + (K.length : Int) := by omega
                have HVV := Lib.hid (show rvalid (N ++ K) = true by
                  unfold rvalid
                  rw [Bool.and_eq_true]
                  refine ⟨decide_eq_true (by rw [List.length_append]; omega), ?_⟩
                  rw [List.all_append, Bool.and_eq_true]
                  exact ⟨List.all_eq_true.2 hNv, HRR.out⟩)
                clear hNv
                by_cases hk0 : K.length = 0
                · have hK0 : K = [] := List.eq_nil_of_length_eq_zero hk0
                  have hrun := run_append_nothing (P := Tryd.prog) (w := w5) 73 73 89 i0 Tryd.underlying73 hi oa za N.length oc (by
                    obtain ⟨rs, g1, g2⟩ := HO5.out
                    rcases OwnSl.form g1 with ⟨h, _⟩ | ⟨g, c, h, _, _, g5, _⟩
                    · obtain ⟨_, h1, h2⟩ := Value.slice.inj h; omega
                    · obtain ⟨_, h1, h2⟩ := Value.slice.inj h; rw [h1, h2]; exact g5) zc (fun h => by
                    subst h
                    obtain ⟨rs, g1, g2⟩ := HO5.out
                    rcases OwnSl.form g1 with ⟨h, _⟩ | ⟨g, c, h, _⟩
                    · obtain ⟨_, h1, h2⟩ := Value.slice.inj h; exact ⟨h1, h2⟩
                    · cases h)
                  rw [hk0] at hb2 ⊢
                  subst hK0
                  clear hk0
                  go_wp2_with (at_builtin; refine wpList_append_run rfl _ _ 73 rfl rfl rfl hrun ?_)
                  go_wp2
                  go_roundw
                  case rel => exact ⟨j + 1, by omega, by go_num, by rw [HCC.out, List.append_nil]; exact HO5, by rw [HCC.out]; exact HVV, hw5⟩
                  case measure => simp [intOf]; omega
                · obtain ⟨gz, rfl, hgz⟩ : ∃ g, za = some ⟨g, 0, none⟩ ∧ g < w5.heap.size := by
                    rcases OwnSl.form HW1.out with ⟨_, h⟩ | ⟨g, c, h, _, h2, _⟩
                    · have := HW2.out.1; rw [h] at this; simp at this; omega
                    · obtain ⟨h1, _, _⟩ := Value.slice.inj h; exact ⟨g, h1, h2⟩
                  obtain ⟨rs, g1, g2⟩ := HO5.out
                  have HG1 := Lib.hid g1
                  have HG2 := Lib.hid g2
                  have hrl : rs.length = N.length := g2.1
                  have hwl : ws.length = K.length := HW2.out.1
                  have hsl : SlAt 4 R4.enc w5 (.slice (some ⟨gz, 0, none⟩) K.length zc) ws := SlFr.at (OwnSl.fr (sz := 4) (enc := R4.enc) (fun _ => rfl) HW1.out)
                  have hfl := SlAt.flat (sz := 4) (enc := R4.enc) (by omega) (fun _ => rfl) hsl
                  have hone : ∀ u ∈ ws.flatMap R4.enc, u.oneCell' = true := fun u hu => by
                    obtain ⟨r, hr, hu2⟩ := List.mem_flatMap.1 hu
                    obtain ⟨k', hk'⟩ := List.getElem?_of_mem hr
                    obtain ⟨bx, hbx⟩ : ∃ bx, K[k']? = some bx := ⟨_, List.getElem?_eq_getElem (by rw [← hwl]; exact (List.getElem?_eq_some_iff.1 hk').1)⟩
                    have hall := HW2.out.2 k' r bx hk' hbx
                    obtain ⟨F0, G0, H0, F1, G1, H1, F2, G2, H2, F3, G3, H3, h0, h1, h2, h3⟩ := sl4_form (hall.mono (fun _ _ g => g.1))
                    simp only [R4.enc, List.mem_cons, List.not_mem_nil, or_false] at hu2
                    rcases hu2 with rfl | rfl | rfl | rfl
                    · rw [h0]; rfl
                    · rw [h1]; rfl
                    · rw [h2]; rfl
                    · rw [h3]; rfl
                  clear g1 g2 hsl
                  go_wp2_with (at_builtin; refine wpList_append_lies _ rfl _ _ 73 rfl wI.heap.size 89 i0 _ 4 96 Tryd.underlying73 hi hy0 hy1 hy2 rfl (by decide) _ N.length (rs.flatMap R4.enc) rfl (hrl ▸ HG1.out) ⟨gz, 0, none⟩ K.length zc (ws.flatMap R4.enc) rfl ?c1 hfl hone (by omega) ?c3 ?c4 ?c5 _ rfl ?_)
                  case c1 => rw [length_flatMap (sz := 4) (fun _ => rfl), hwl]
                  case c3 => simp only [maxLen]; omega
                  case c4 => omega
                  case c5 => omega
                  intro g8 cap8 w8 hown8 hgrow8 hlies8 hlt8
                  have hB8 : Below wI.heap.size wI w8 := hw5.grown hgrow8 (by omega) (fun z hz => by have := hown z hz; omega)
                  have HF8 := Lib.hid (show NX X wI.heap.size w8 (.slice (some ⟨g8, 0, none⟩) (N.length + K.length) cap8) (bless1 (L.take (j + 1)) x) by
                    rw [HCC.out]
                    refine NX.push (H := w5.heap.size) (HW2.out.mono (fun _ _ g => (All2.mono g (fun _ _ q => q.sub (fun _ h => .inr h)) : All2 _ _ _))) ⟨hgrow8.size, fun k k1 k2 => hgrow8.block k k1 k2⟩ (fun z hz => by cases hz; exact hlies8) (Nat.le_refl _) HG2.out ?_
                    unfold OwnSl
                    rw [List.length_append, List.flatMap_append, hrl, hwl]
                    exact hown8)
                  have hNK : N.length + K.length = (bless1 (L.take (j + 1)) x).length := by rw [HCC.out, List.length_append]
                  clear hown8 hgrow8 hlies8 hlt8 hfl hone
                  go_wp2
                  go_roundw
                  case rel => exact ⟨j + 1, by omega, by go_num, HF8, by rw [HCC.out]; exact HVV, hB8⟩
                  case measure => simp [intOf]; omega
          · have hjm : j = m := by omega
            have HCC := Lib.hid (show bless1 (L.take j) x = bless1 L x by rw [List.take_of_length_le (by rw [HM.out]; omega)])
            obtain ⟨N, hN⟩ : ∃ N, bless1 (L.take j) x = N := ⟨_, rfl⟩
            rw [hN] at hN4 HO HVN HCC ⊢
            have HB2 := Lib.hid (show blessB b xs = bless N (xs.drop (k + 1)) by rw [HB.out, HXK.out, bless_ok (by rw [← HCC.out]; exact HVN.out), HCC.out])
            have HI := Lib.hid HO.out.issx
            clear hN hNv
            by_cases hN0 : N.length = 0
            · have hN00 : N = [] := List.eq_nil_of_length_eq_zero hN0
              subst hN00
              have HE2 := Lib.hid (show blessB b xs = some [] by rw [HB2.out]; exact bless_nil _)
              simp only [List.length_nil] at HI ⊢
              go_wp2
              go_ret2
              exact ⟨_, by rw [HE2.out]; rfl, fun ys h => (by rw [HE2.out] at h; cases h; exact HI.out), hwr⟩
            · have hne : ((N.length : Int) == 0) = false := by simpa using hN0
              clear hN0
              go_wp2
              go_roundw
              case rel => exact ⟨k + 1, N, by omega, by go_num, HI, HVN, HB2, hwr⟩
              case measure => simp [intOf]; omega
      · have HE2 := Lib.hid (show blessB b xs = some L by rw [HB.out, List.drop_of_length_le (by rw [HN.out]; omega)]; rfl)
        go_wp2
        go_ret2
        exact ⟨_, by rw [HE2.out]; rfl, fun ys h => (by rw [HE2.out] at h; cases h; exact HL.out), hbr⟩
  · have HBS := Lib.hid (show blessB b xs = some [] by unfold blessB bstart; rw [HE.out]; exact bless_nil xs)
    go_wp2
    go_ret2
    refine ⟨_, by rw [HBS.out]; rfl, fun ys h => ?_, hw1⟩
    rw [HBS.out] at h
    cases h
    exact ⟨[], ⟨none, 0, rfl, by simp, by simp, fun k x h => by simp at h⟩, All2.nil⟩
theorem less_any {lo lo' : Nat} (b : Bx) (xs : List Bx) (v0 v1 v2 v3 v : Value) (w : World) (ht : Tab w) (hs : All2 (Sps lo w) [v0, v1, v2, v3] b) (hr : Iss lo' w v xs) (hb : bvalid b = true) (hx : ∀ (k : Nat) x, xs[k]? = some x → bvalid x = true) :
    Calls Tryd.prog 67 #[.agg #[v0, v1, v2, v3], v] w fun e w' => ∃ z, e = .returned (.tuple #[z, .bool (blessB b xs).isSome]) ∧ (∀ ys, blessB b xs = some ys → Iss 0 w' z ys) ∧ Below w.heap.size w w' := by
  refine (lessX_any (X := fun _ => False) b xs v0 v1 v2 v3 v w ht (fun _ h => h.elim) (hs.mono (fun _ _ g => SpV.no g)) hr.x hb hx).mono ?_
  rintro e w' ⟨z, rfl, h, hb⟩
  exact ⟨z, rfl, fun ys hy => (h ys hy).iss, hb⟩
end Go.Proofs.YtajcogpfmpehkaaDoor
