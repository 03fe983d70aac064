/- A box cut by boxes: the program's walk. -/
import Derived.Maps.OwnIn
import Derived.Test.YtfcbbahlhjdefaaDoorRgI
namespace Go.Proofs.YtfcbbahlhjdefaaDoor
open Go.RowKit Go.Shelf
attribute [local go_sem] Oper.semAt_some
set_option maxHeartbeats 1000000 in
theorem pieces_in (v0 v1 v2 v3 u0 u1 u2 u3 : Value) (w : World) :
    Calls Tryd.prog 67 #[.agg #[v0, v1, v2, v3], .agg #[u0, u1, u2, u3]] w fun e w' => e = .returned (.func (.func 74) #[] #[.pointer (some ⟨w.heap.size, 0, none⟩), .pointer (some ⟨w.heap.size + 1, 0, none⟩)]) ∧ w' = (w.alloc (.cells #[v0, v1, v2, v3] 84)).alloc (.cells #[u0, u1, u2, u3] 84) := by
  go_enter Tryd.func67, Tryd.ntmps67
  go_wp2
  go_ret
  exact ⟨rfl, rfl⟩
/-- The statement 'for .. := range g { .. }' outside every loop, no fence about it: the record and the block for deferred calls are laid; what the one call comes to. -/
theorem range_wide {P : Program} {g : Operand} {ps : Array Tmp} {assign body : Code} {Q : Exit → Act → World → Prop} {a : Act} {w : World} {gf : Nat} {lb : Array Value}
    (hg : a.eval g = .func (.func gf) #[] lb) (eg : ∀ args w, (callFunc gf args).run P w = .ok (.enter gf args) w)
    (h : ∀ (fn : FuncId) (rec : Loop), rec = { state := .ready, pending := none, fn := fn, tmps := a.tmps, params := ps, assign := assign, body := body, defers := w.heap.size } → CallsIn Fence.wide 2 P gf (#[.func (.yield (w.heap.size + 1)) #[] #[]] ++ lb) ((w.alloc (.deferred (some []))).alloc (.loop rec))
      (rangePost Fence.wide 3 P (w.heap.size + 1) Q { a with defers := { target := .collected w.heap.size, args := #[] } :: a.defers })) :
    (Code.rangeFunc g ps assign body).wpIn Fence.wide 3 P Q a w := by
  refine wpIn_rangeFunc (fun fn _ => ?_)
  obtain ⟨rec, hrec⟩ : ∃ rec : Loop, rec = { state := .ready, pending := none, fn := fn, tmps := a.tmps, params := ps, assign := assign, body := body, defers := w.heap.size } := ⟨_, rfl⟩
  have hr := run_enterLoop_outer (P := P) (w := w) fn a.tmps ps assign body
  rw [← hrec] at hr
  refine ⟨w.heap.size + 1, [{ target := .collected w.heap.size, args := #[] }], (w.alloc (.deferred (some []))).alloc (.loop rec), { target := .fn (.func gf) lb, args := #[.func (.yield (w.heap.size + 1)) #[] #[]] }, (w.alloc (.deferred (some []))).alloc (.loop rec), gf, #[.func (.yield (w.heap.size + 1)) #[] #[]] ++ lb, (w.alloc (.deferred (some []))).alloc (.loop rec), hr, ?r1, ?r2, ?r3, ?r4, ?r5⟩
  case r5 => exact h fn rec hrec
  case r4 => intro hh; simp [Fence.wide] at hh
  case r2 => exact fun _ _ => trivial
  case r1 =>
    simp only [resolve, hg]
    simp [go_sem]
  case r3 => simp [invoke, go_sem, eg]
/-- What the loop that collects the pieces has in memory. -/
structure JC (X : Nat → Prop) (w : World) (R0 R1 B D l : Nat) (rec : Loop) (h : Nat) (pre : List Bx) (W : World) : Prop where
  nm : w.heap.size ≤ R0 ∧ R0 < R1 ∧ R1 < B ∧ B < D ∧ D < l ∧ 0 < w.heap.size
  nh : B < h ∧ h ≠ D ∧ h ≠ l
  rl : W.heap[l]? = some (.loop rec)
  rd : W.heap[D]? = some (.deferred (some []))
  bl : Below w.heap.size w W
  r0 : W.cell? ⟨R0, 0, none⟩ = some (.slice none 0 0)
  f0 : W.frozen? ⟨R0, 0, none⟩ = false
  r1 : W.cell? ⟨R1, 0, none⟩ = some (.bool false)
  f1 : W.frozen? ⟨R1, 0, none⟩ = false
  fb : W.frozen? ⟨B, 0, none⟩ = false
  own : ∃ v rs, W.cell? ⟨B, 0, none⟩ = some v ∧ OwnSl (l + 1) 84 4 R4.enc W v rs ∧ v.ownBlock ≠ some h ∧ All2 (fun (r : R4) b => All2 (SpV (PB X B l h v.ownBlock) W) [r.v0, r.v1, r.v2, r.v3] b) rs pre
theorem JC.obk {X : Nat → Prop} {w W : World} {R0 R1 B D l h : Nat} {rec : Loop} {pre : List Bx} (J : JC X w R0 R1 B D l rec h pre W) : ∃ v rs, W.cell? ⟨B, 0, none⟩ = some v ∧ OwnSl (l + 1) 84 4 R4.enc W v rs ∧ Go.Proofs.YtfcbbahlhjdefaaDoor.obk B W = v.ownBlock ∧ v.ownBlock ≠ some h ∧ All2 (fun (r : R4) b => All2 (SpV (PB X B l h (Go.Proofs.YtfcbbahlhjdefaaDoor.obk B W)) W) [r.v0, r.v1, r.v2, r.v3] b) rs pre := by
  obtain ⟨v, rs, h1, h2, h3, h4⟩ := J.own
  have e : Go.Proofs.YtfcbbahlhjdefaaDoor.obk B W = v.ownBlock := by unfold Go.Proofs.YtfcbbahlhjdefaaDoor.obk; rw [h1]
  exact ⟨v, rs, h1, h2, e, h3, by rw [e]; exact h4⟩
theorem heap_lt {W : World} {k : Nat} {o : Obj} (h : W.heap[k]? = some o) : k < W.heap.size := (Array.getElem?_eq_some_iff.1 h).1
theorem JC.st {X : Nat → Prop} {w : World} {R0 R1 B D l : Nat} {rec : Loop} (h : Nat) (pre : List Bx) (W W' : World) (J : JC X w R0 R1 B D l rec h pre W) (hk : KIt h W W') : JC X w R0 R1 B D l rec h pre W' := by
  obtain ⟨n1, n2, n3, n4, n5, n6⟩ := J.nm
  obtain ⟨m1, m2, m3⟩ := J.nh
  have zl := heap_lt J.rl
  obtain ⟨v, rs, h1, h2, h3, h4⟩ := J.own
  have same : ∀ k, k < l → k ≠ h → W'.heap[k]? = W.heap[k]? := fun k hk1 hk2 => hk.2 k (by omega) hk2
  refine ⟨J.nm, J.nh, (hk.2 l zl (fun e => m3 e.symm)).trans J.rl, (same D n5 (fun e => m2 e.symm)).trans J.rd, J.bl.trans (hk.low (by omega) J.bl.size), (World.cell?_of_block (a := ⟨R0, 0, none⟩) (same R0 (by omega) (by omega))).trans J.r0, (World.frozen?_of_block (a := ⟨R0, 0, none⟩) (same R0 (by omega) (by omega))).trans J.f0, (World.cell?_of_block (a := ⟨R1, 0, none⟩) (same R1 (by omega) (by omega))).trans J.r1, (World.frozen?_of_block (a := ⟨R1, 0, none⟩) (same R1 (by omega) (by omega))).trans J.f1, (World.frozen?_of_block (a := ⟨B, 0, none⟩) (same B (by omega) (by omega))).trans J.fb, v, rs, (World.cell?_of_block (a := ⟨B, 0, none⟩) (same B (by omega) (by omega))).trans h1, OwnSl.keepB h2 (fun g g1 _ g3 => hk.2 g g3 (fun e => h3 (by rw [g1, e]))), h3, h4.mono (fun _ _ g => (All2.mono g (fun _ _ q => q.keep hk.1 (fun k k1 k2 => ⟨hk.2 k k1 (fun e => k2 (.inr (.inr (.inl e)))), k2⟩)) : All2 _ _ _))⟩
theorem cut_cells (w : World) (S O : Array Value) :
    (∀ j, (((((((w.alloc (.cells S 84)).alloc (.cells O 84)).alloc (.cells #[.slice none 0 0] 81)).alloc (.cells #[.bool false] 4)).alloc (.cells #[.slice none 0 0] 81)).alloc (.cells S 84)).alloc (.cells O 84)).cell? ⟨w.heap.size + 1 + 1 + 1 + 1 + 1, j, none⟩ = S[j]?) ∧ (∀ j, (((((((w.alloc (.cells S 84)).alloc (.cells O 84)).alloc (.cells #[.slice none 0 0] 81)).alloc (.cells #[.bool false] 4)).alloc (.cells #[.slice none 0 0] 81)).alloc (.cells S 84)).alloc (.cells O 84)).cell? ⟨w.heap.size + 1 + 1 + 1 + 1 + 1 + 1, j, none⟩ = O[j]?) ∧
    ((((((((w.alloc (.cells S 84)).alloc (.cells O 84)).alloc (.cells #[.slice none 0 0] 81)).alloc (.cells #[.bool false] 4)).alloc (.cells #[.slice none 0 0] 81)).alloc (.cells S 84)).alloc (.cells O 84)).cell? ⟨w.heap.size + 1 + 1 + 1 + 1, 0, none⟩ = some (.slice none 0 0) ∧ (((((((w.alloc (.cells S 84)).alloc (.cells O 84)).alloc (.cells #[.slice none 0 0] 81)).alloc (.cells #[.bool false] 4)).alloc (.cells #[.slice none 0 0] 81)).alloc (.cells S 84)).alloc (.cells O 84)).frozen? ⟨w.heap.size + 1 + 1 + 1 + 1, 0, none⟩ = false) ∧
    ((((((((w.alloc (.cells S 84)).alloc (.cells O 84)).alloc (.cells #[.slice none 0 0] 81)).alloc (.cells #[.bool false] 4)).alloc (.cells #[.slice none 0 0] 81)).alloc (.cells S 84)).alloc (.cells O 84)).cell? ⟨w.heap.size + 1 + 1, 0, none⟩ = some (.slice none 0 0) ∧ (((((((w.alloc (.cells S 84)).alloc (.cells O 84)).alloc (.cells #[.slice none 0 0] 81)).alloc (.cells #[.bool false] 4)).alloc (.cells #[.slice none 0 0] 81)).alloc (.cells S 84)).alloc (.cells O 84)).frozen? ⟨w.heap.size + 1 + 1, 0, none⟩ = false) ∧
    ((((((((w.alloc (.cells S 84)).alloc (.cells O 84)).alloc (.cells #[.slice none 0 0] 81)).alloc (.cells #[.bool false] 4)).alloc (.cells #[.slice none 0 0] 81)).alloc (.cells S 84)).alloc (.cells O 84)).cell? ⟨w.heap.size + 1 + 1 + 1, 0, none⟩ = some (.bool false) ∧ (((((((w.alloc (.cells S 84)).alloc (.cells O 84)).alloc (.cells #[.slice none 0 0] 81)).alloc (.cells #[.bool false] 4)).alloc (.cells #[.slice none 0 0] 81)).alloc (.cells S 84)).alloc (.cells O 84)).frozen? ⟨w.heap.size + 1 + 1 + 1, 0, none⟩ = false) ∧
    (((((((w.alloc (.cells S 84)).alloc (.cells O 84)).alloc (.cells #[.slice none 0 0] 81)).alloc (.cells #[.bool false] 4)).alloc (.cells #[.slice none 0 0] 81)).alloc (.cells S 84)).alloc (.cells O 84)).heap.size = w.heap.size + 1 + 1 + 1 + 1 + 1 + 1 + 1 ∧ Below w.heap.size w (((((((w.alloc (.cells S 84)).alloc (.cells O 84)).alloc (.cells #[.slice none 0 0] 81)).alloc (.cells #[.bool false] 4)).alloc (.cells #[.slice none 0 0] 81)).alloc (.cells S 84)).alloc (.cells O 84)) := by
  refine ⟨fun j => by go_simp, fun j => by go_simp, ⟨by go_simp, by go_simp⟩, ⟨by go_simp, by go_simp⟩, ⟨by go_simp, by go_simp⟩, by simp, by (repeat' (first | with_reducible exact Below.refl _ _ | with_reducible assumption | with_reducible refine Below.setCell ?_ ?_ _ | with_reducible refine Below.alloc ?_ ?_ _ | with_reducible refine Below.drew ?_ | with_reducible refine belDrewN ?_ _ | with_reducible refine Below.trans ?_ (Below.mono (by assumption) ?_) | omega | (simp; omega) | (simp; done)))⟩
theorem Sps.ints {lo : Nat} {w w' : World} {v : Value} {xs : List Sp} (h : Sps lo w v xs) (hz : w.heap.size ≤ w'.heap.size) (hc : ∀ (p : Addr) (n : Int), w.cell? p = some (.int .i64 n) → w'.cell? p = some (.int .i64 n)) : Sps lo w' v xs := by
  obtain ⟨a, cap, rfl, h1, h2, hx⟩ := h
  refine ⟨a, cap, rfl, h1, h2, fun k x hk => ?_⟩
  obtain ⟨b, o, ha, h3, h4, hcc⟩ := hx k x hk
  refine ⟨b, o, ha, h3, by omega, fun j u hj => ?_⟩
  have := hcc j u hj
  match j, hj with
  | 0, hj => cases hj; exact hc _ _ this
  | 1, hj => cases hj; exact hc _ _ this
  | j + 2, hj => simp at hj
/-- Boxes as arrays of sets, in a list of the call's own; the sets may be shared, and lie in no block of X. -/
def SdO (X : Nat → Prop) (lo : Nat) (w : World) (v : Value) (bs : List Bx) : Prop :=
  ∃ rs, OwnSl lo 84 4 R4.enc w v rs ∧ All2 (fun (r : R4) b => All2 (SpV (fun k => some k = v.ownBlock ∨ X k) w) [r.v0, r.v1, r.v2, r.v3] b) rs bs
theorem not_cell {W : World} {p : Addr} {k : Nat} {o : Obj} (h : W.heap[k]? = some o) (ho : o.isCells = false) {u : Value} (hc : W.cell? p = some u) : p.block ≠ k := by
  intro e
  subst e
  unfold World.cell? at hc
  rw [h] at hc
  cases o <;> simp_all [Obj.isCells]
/-- What is left where a set has too many ranges. -/
structure JX (w : World) (R0 R1 D l : Nat) (rec : Loop) (W : World) : Prop where
  rl : W.heap[l]? = some (.loop { rec with state := .done, pending := some .ret })
  rd : W.heap[D]? = some (.deferred (some []))
  bl : Below w.heap.size w W
  r0 : W.cell? ⟨R0, 0, none⟩ = some (.slice none 0 0)
  f0 : W.frozen? ⟨R0, 0, none⟩ = false
  r1 : W.cell? ⟨R1, 0, none⟩ = some (.bool false)
  f1 : W.frozen? ⟨R1, 0, none⟩ = false
set_option maxHeartbeats 2000000 in
set_option maxRecDepth 100000 in
theorem cut_any (X : Nat → Prop) (a b : Bx) (v0 v1 v2 v3 u0 u1 u2 u3 : Value) (w : World) (ht : Tab w) (hXX : ∀ k, X k → k < w.heap.size) (hs : All2 (SpV X w) [v0, v1, v2, v3] a) (hu : All2 (SpV X w) [u0, u1, u2, u3] b) (ha : bvalid a = true) (hb : bvalid b = true) :
    Calls Tryd.prog 60 #[.agg #[v0, v1, v2, v3], .agg #[u0, u1, u2, u3]] w fun e w' => ∃ z, e = .returned (.tuple #[z, .bool ((bcut a b).all bvalid)]) ∧ ((bcut a b).all bvalid = true → SdO X w.heap.size w' z (bcut a b)) ∧ Below w.heap.size w w' := by
  refine (callsIn_wide (n := 3)).1 ?_
  refine callsIn_of_wp_marks Tryd.func60 rfl trivial ?_ rfl
  simp only [Tryd.ntmps60, List.size_toArray, List.length_cons, List.length_nil, Nat.reduceAdd, Nat.reduceSub, Array.replicate_succ, Array.replicate_zero, List.push_toArray, List.append_toArray, List.nil_append, List.cons_append]
  obtain ⟨i0, hi, hy0, hy1, hy2⟩ := info_parts infoSd
  have hn := ht.1
  gi_wp2_with (refine ⟨trivial, ?_⟩; gi_at_call 67; refine (callsIn_wide.2 (pieces_in _ _ _ _ _ _ _ _ _)).mono ?_; rintro e w' ⟨rfl, rfl⟩)
  obtain ⟨W0, hW0⟩ : ∃ W0, (((((((w.alloc (.cells #[v0, v1, v2, v3] 84)).alloc (.cells #[u0, u1, u2, u3] 84)).alloc (.cells #[.slice none 0 0] 81)).alloc (.cells #[.bool false] 4)).alloc (.cells #[.slice none 0 0] 81)).alloc (.cells #[v0, v1, v2, v3] 84)).alloc (.cells #[u0, u1, u2, u3] 84)) = W0 := ⟨_, rfl⟩
  have hcc := cut_cells w #[v0, v1, v2, v3] #[u0, u1, u2, u3]
  rw [hW0] at hcc
  obtain ⟨cS, cO, cB, cR, cQ, hz, hb0⟩ := hcc
  have hz0 : W0.heap.size ≤ w.heap.size + 1 + 1 + 1 + 1 + 1 + 1 + 1 := by omega
  have hz0' : w.heap.size + 1 + 1 + 1 + 1 + 1 + 1 + 1 ≤ W0.heap.size := by omega
  clear hz
  refine range_wide (gf := 74) rfl (enters_of Tryd.func74 (by kernel_rfl) rfl) (fun fn rec hrec => ?_)
  rw [hW0] at hrec ⊢
  clear hW0
  have HCS := Lib.hid cS
  have HCO := Lib.hid cO
  clear cS cO
  have hbl1 : Below W0.heap.size W0 ((W0.alloc (.deferred (some []))).alloc (.loop rec)) := ((Below.refl _ _).alloc (Nat.le_refl _) _).alloc (by simp) _
  have hrl : ((W0.alloc (.deferred (some []))).alloc (.loop rec)).heap[W0.heap.size + 1]? = some (.loop rec) := by
    have := World.alloc_heap_new (W0.alloc (.deferred (some []))) (.loop rec); rwa [World.size_alloc] at this
  have hrd : ((W0.alloc (.deferred (some []))).alloc (.loop rec)).heap[W0.heap.size]? = some (.deferred (some [])) :=
    (Below.heap_alloc _ _ _ (by simp)).trans (World.alloc_heap_new W0 _)
  obtain ⟨W1, hW1⟩ : ∃ W1, (W0.alloc (.deferred (some []))).alloc (.loop rec) = W1 := ⟨_, rfl⟩
  have hz1 : W1.heap.size ≤ W0.heap.size + 1 + 1 := by rw [← hW1]; simp
  have hz1' : W0.heap.size + 1 + 1 ≤ W1.heap.size := by rw [← hW1]; simp
  rw [hW1] at hbl1 hrl hrd ⊢
  clear hW1
  have HJ1 : ∀ h, h = w.heap.size + 1 + 1 + 1 + 1 + 1 ∨ W1.heap.size ≤ h → JC X w (w.heap.size + 1 + 1) (w.heap.size + 1 + 1 + 1) (w.heap.size + 1 + 1 + 1 + 1) W0.heap.size (W0.heap.size + 1) rec h [] W1 := fun h hh =>
    ⟨by omega, by omega, hrl, hrd, hb0.trans (hbl1.mono (by omega)), (hbl1.cell (p := ⟨w.heap.size + 1 + 1, 0, none⟩) (by simp only; omega)).trans cR.1, (hbl1.frozen (p := ⟨w.heap.size + 1 + 1, 0, none⟩) (by simp only; omega)).trans cR.2,
     (hbl1.cell (p := ⟨w.heap.size + 1 + 1 + 1, 0, none⟩) (by simp only; omega)).trans cQ.1, (hbl1.frozen (p := ⟨w.heap.size + 1 + 1 + 1, 0, none⟩) (by simp only; omega)).trans cQ.2, (hbl1.frozen (p := ⟨w.heap.size + 1 + 1 + 1 + 1, 0, none⟩) (by simp only; omega)).trans cB.2,
     _, [], (hbl1.cell (p := ⟨w.heap.size + 1 + 1 + 1 + 1, 0, none⟩) (by simp only; omega)).trans cB.1, World.ownsRow_nil _ _ _ _, fun e => (by cases e), All2.nil⟩
  have HR : Rnd X (w.heap.size + 1 + 1 + 1 + 1) (W0.heap.size + 1) (JC X w (w.heap.size + 1 + 1) (w.heap.size + 1 + 1 + 1) (w.heap.size + 1 + 1 + 1 + 1) W0.heap.size (W0.heap.size + 1) rec) (JX w (w.heap.size + 1 + 1) (w.heap.size + 1 + 1 + 1) W0.heap.size (W0.heap.size + 1) rec) := by
    refine ⟨JC.st, fun h pre W J => ?_, fun h pre W J => ht.below J.bl, ?_, ?_⟩
    · obtain ⟨v, rs, q1, q2, q3, q4, q5⟩ := J.obk
      obtain ⟨n1, n2, n3, n4, n5, n6⟩ := J.nm
      obtain ⟨m1, m2, m3⟩ := J.nh
      have zl := heap_lt J.rl
      exact ⟨by omega, zl, by omega, m3, fun e => q4 (by rw [← q3]; exact e.symm), fun z hz => (World.ownsRow.lt q2 z (by rw [← q3]; exact hz)).2⟩
    · intro h pre x0 x1 x2 x3 bx W J hh hlen hset
      obtain ⟨A0, N0, P0, A1, N1, P1, A2, N2, P2, A3, N3, P3, rfl, rfl, rfl, rfl⟩ := sl4_form (hset.mono (fun _ _ h => h.sps))
      obtain ⟨v, rs, q1, q2, q3, q4, q5⟩ := J.obk
      obtain ⟨n1, n2, n3, n4, n5, n6⟩ := J.nm
      obtain ⟨m1, m2, m3⟩ := J.nh
      have zl := heap_lt J.rl
      have HREC := Lib.hid hrec
      have HSET := Lib.hid hset
      have HQ5 := Lib.hid q5
      have HQ3 := Lib.hid q3
      have HJ := Lib.hid J
      have hlr : rs.length ≤ 4 := by rw [q5.1]; omega
      have hvo : ∀ z, v.ownBlock = some z → W0.heap.size + 1 + 1 ≤ z ∧ z < W.heap.size := fun z hz => World.ownsRow.lt q2 z hz
      have hal : Below W.heap.size W (W.alloc (.cells #[.slice A0 N0 P0, .slice A1 N1 P1, .slice A2 N2 P2, .slice A3 N3 P3] 84)) := (Below.refl _ _).alloc (Nat.le_refl _) _
      have hbr := run_beginRound (P := Tryd.prog) ((hal.block (W0.heap.size + 1) zl).trans J.rl) (by rw [hrec])
      have hc4 : ∀ j u, [Value.slice A0 N0 P0, .slice A1 N1 P1, .slice A2 N2 P2, .slice A3 N3 P3][j]? = some u → (W.alloc (.cells #[.slice A0 N0 P0, .slice A1 N1 P1, .slice A2 N2 P2, .slice A3 N3 P3] 84)).cell? ⟨W.heap.size, j, none⟩ = some u := fun k v hk => by
        match k, hk with
        | 0, hk => cases hk; simp
        | 1, hk => cases hk; simp
        | 2, hk => cases hk; simp
        | 3, hk => cases hk; simp
        | k + 4, hk => simp at hk
      refine ⟨rec.fn, _, rec.assign, rec.body, run_yield J.rl (by rw [hrec]; rfl), roundIn_of_wpIn trivial ?_⟩
      clear hset q5 q3 J
      rw [hrec]
      clear hrec
      gi_wp2
      refine ⟨_, hbr, ?_⟩
      obtain ⟨W2, hW2⟩ : ∃ W2, (W.alloc (.cells #[.slice A0 N0 P0, .slice A1 N1 P1, .slice A2 N2 P2, .slice A3 N3 P3] 84)).putObj (W0.heap.size + 1) (.loop { rec with state := .busy }) = W2 := ⟨_, rfl⟩
      have hK2 : ∀ k, k ≠ W0.heap.size + 1 → W2.heap[k]? = (W.alloc (.cells #[.slice A0 N0 P0, .slice A1 N1 P1, .slice A2 N2 P2, .slice A3 N3 P3] 84)).heap[k]? := fun k hk => by rw [← hW2]; exact World.putObj_heap_other hk
      have hl2 : W2.heap[W0.heap.size + 1]? = some (.loop { rec with state := .busy }) := by rw [← hW2]; exact World.putObj_heap_same (by simp; omega)
      have z2 : W2.heap.size ≤ W.heap.size + 1 := by rw [← hW2]; simp
      have z2' : W.heap.size + 1 ≤ W2.heap.size := by rw [← hW2]; simp
      have hB2 : Below w.heap.size W W2 := by rw [← hW2]; exact (hal.mono (by omega)).grown (grownBy_putObj' _ _ _) (by simp; omega) (fun k e => by cases e; omega)
      rw [hW2]
      clear hW2 hbr
      have p0 := (World.cell?_of_block (a := ⟨W.heap.size, 0, none⟩) (hK2 W.heap.size (by omega))).trans (hc4 0 _ rfl)
      have p1 := (World.cell?_of_block (a := ⟨W.heap.size, 1, none⟩) (hK2 W.heap.size (by omega))).trans (hc4 1 _ rfl)
      have p2 := (World.cell?_of_block (a := ⟨W.heap.size, 2, none⟩) (hK2 W.heap.size (by omega))).trans (hc4 2 _ rfl)
      have p3 := (World.cell?_of_block (a := ⟨W.heap.size, 3, none⟩) (hK2 W.heap.size (by omega))).trans (hc4 3 _ rfl)
      have hs2 : ∀ k, k < W.heap.size → k ≠ W0.heap.size + 1 → W2.heap[k]? = W.heap[k]? := fun k k1 k2 => (hK2 k k2).trans (hal.block k k1)
      have b0 := (World.cell?_of_block (a := ⟨w.heap.size + 1 + 1 + 1 + 1, 0, none⟩) (hs2 _ (by simp only; omega) (by simp only; omega))).trans q1
      have bf := (World.frozen?_of_block (a := ⟨w.heap.size + 1 + 1 + 1 + 1, 0, none⟩) (hs2 _ (by simp only; omega) (by simp only; omega))).trans HJ.out.fb
      have HO2 := Lib.hid (OwnSl.keepB q2 (fun z z1 _ z3 => hs2 z z3 (by have := hvo z z1; omega)))
      obtain ⟨va, vc, rfl⟩ : ∃ a c, v = .slice a rs.length c := by
        rcases OwnSl.form q2 with ⟨h, h'⟩ | ⟨g, c, h, _⟩
        · exact ⟨_, _, by rw [h', h]; rfl⟩
        · exact ⟨_, _, h⟩
      clear hc4 hK2 q2 q1
      gi_wp2_with (gi_at_builtin; refine wpListIn_append_own_at _ rfl _ _ 81 rfl (W0.heap.size + 1 + 1) 84 i0 _ 4 96 Tryd.underlying81 hi hy0 hy1 hy2 rfl (by decide) _ _ _ rfl (World.ownsRow.alloc HO2.out _) ⟨W2.heap.size, 0, none⟩ 1 1 [.slice A0 N0 P0, .slice A1 N1 P1, .slice A2 N2 P2, .slice A3 N3 P3] rfl rfl (cellsNew W2 [.slice A0 N0 P0, .slice A1 N1 P1, .slice A2 N2 P2, .slice A3 N3 P3] _) ?c2 ?c3 ?c4 ?c5 ?_)
      case c2 => simp [Value.oneCell']
      case c3 => simp only [maxLen]; omega
      case c4 => omega
      case c5 => simp; omega
      intro v' w5 hown5 hgrow5 _ hat5
      obtain ⟨g5, cap5, rfl⟩ := ownsRow_succ hown5
      have z5 := hgrow5.size
      simp only [World.size_alloc] at z5
      have hs5 : ∀ k, k < W.heap.size → k ≠ W0.heap.size + 1 → some k ≠ (Value.slice va rs.length vc).ownBlock → w5.heap[k]? = W.heap[k]? := fun k k1 k2 k3 =>
        (hgrow5.block k (by simp; omega) k3).trans ((Below.heap_alloc _ _ _ (by omega)).trans (hs2 k k1 k2))
      have hoB : some (w.heap.size + 1 + 1 + 1 + 1) ≠ (Value.slice va rs.length vc).ownBlock := fun e => by have := hvo _ e.symm; omega
      have b5 := (World.cell?_of_block (a := ⟨w.heap.size + 1 + 1 + 1 + 1, 0, none⟩) ((hgrow5.block (w.heap.size + 1 + 1 + 1 + 1) (by simp; omega) hoB).trans (Below.heap_alloc _ _ _ (by omega)))).trans b0
      have bf5 := (World.frozen?_of_block (a := ⟨w.heap.size + 1 + 1 + 1 + 1, 0, none⟩) ((hgrow5.block (w.heap.size + 1 + 1 + 1 + 1) (by simp; omega) hoB).trans (Below.heap_alloc _ _ _ (by omega)))).trans bf
      have hl5 := (hgrow5.block (W0.heap.size + 1) (by simp; omega) (fun e => by have := hvo _ e.symm; omega)).trans ((Below.heap_alloc _ _ _ (by omega)).trans hl2)
      have hB5 : Below w.heap.size W w5 := (hB2.alloc (by omega) _).grown hgrow5 (by simp; omega) (fun z hz => by have := hvo z hz; omega)
      have HO5 := Lib.hid (OwnSl.pushed rfl hown5 : OwnSl (W0.heap.size + 1 + 1) 84 4 R4.enc w5 (.slice (some ⟨g5, 0, none⟩) (rs.length + 1) cap5) (rs ++ [⟨.slice A0 N0 P0, .slice A1 N1 P1, .slice A2 N2 P2, .slice A3 N3 P3⟩]))
      have HAT := Lib.hid hat5
      have hg5 := World.ownsRow.lt hown5 g5 rfl
      clear hown5 hgrow5 hat5 b0 bf p0 p1 p2 p3 hs2 hl2 hB2
      gi_wp2
      have hl6 : (w5.setCell ⟨w.heap.size + 1 + 1 + 1 + 1, 0, none⟩ (.slice (some ⟨g5, 0, none⟩) (rs.length + 1) cap5)).heap[W0.heap.size + 1]? = some (.loop { rec with state := .busy }) := (Below.heap_setCell _ _ _ _ (by simp only; omega)).trans hl5
      have hend := run_endRound (P := Tryd.prog) none hl6
      refine ⟨_, _, hend, rfl, ?_⟩
      have hrr : ({ { rec with state := .busy } with state := if (none : Option Code).isNone then .ready else .done, pending := none } : Loop) = rec := by rw [HREC.out]; rfl
      rw [hrr]
      have hs7 : ∀ k, k < W.heap.size → k ≠ w.heap.size + 1 + 1 + 1 + 1 → k ≠ W0.heap.size + 1 → some k ≠ (Value.slice va rs.length vc).ownBlock → ((w5.setCell ⟨w.heap.size + 1 + 1 + 1 + 1, 0, none⟩ (.slice (some ⟨g5, 0, none⟩) (rs.length + 1) cap5)).putObj (W0.heap.size + 1) (.loop rec)).heap[k]? = W.heap[k]? := fun k k1 k2 k3 k4 =>
        (World.putObj_heap_other k3).trans ((Below.heap_setCell _ _ _ _ k2).trans (hs5 k k1 k3 k4))
      obtain ⟨W7, hW7⟩ : ∃ W7, (w5.setCell ⟨w.heap.size + 1 + 1 + 1 + 1, 0, none⟩ (.slice (some ⟨g5, 0, none⟩) (rs.length + 1) cap5)).putObj (W0.heap.size + 1) (.loop rec) = W7 := ⟨_, rfl⟩
      have hB7 : Below w.heap.size W W7 := by
        rw [← hW7]
        exact (hB5.setCell (p := ⟨w.heap.size + 1 + 1 + 1 + 1, 0, none⟩) (by simp only; omega) _).grown (grownBy_putObj' _ _ _) (by simp; omega) (fun k e => by cases e; omega)
      have hb7 : W7.cell? ⟨w.heap.size + 1 + 1 + 1 + 1, 0, none⟩ = some (.slice (some ⟨g5, 0, none⟩) (rs.length + 1) cap5) ∧ W7.frozen? ⟨w.heap.size + 1 + 1 + 1 + 1, 0, none⟩ = false := by
        have e : W7.heap[w.heap.size + 1 + 1 + 1 + 1]? = (w5.setCell ⟨w.heap.size + 1 + 1 + 1 + 1, 0, none⟩ (.slice (some ⟨g5, 0, none⟩) (rs.length + 1) cap5)).heap[w.heap.size + 1 + 1 + 1 + 1]? := by rw [← hW7]; exact World.putObj_heap_other (by omega)
        exact ⟨(World.cell?_of_block (a := ⟨w.heap.size + 1 + 1 + 1 + 1, 0, none⟩) e).trans (World.cell?_setCell_same' _ _ _ (by rw [b5]; rfl)), (World.frozen?_of_block (a := ⟨w.heap.size + 1 + 1 + 1 + 1, 0, none⟩) e).trans (by rw [World.frozen?_setCell]; exact bf5)⟩
      have hl7 : W7.heap[W0.heap.size + 1]? = some (.loop rec) := by rw [← hW7]; exact World.putObj_heap_same (by simp; omega)
      have hO7 : OwnSl (W0.heap.size + 1 + 1) 84 4 R4.enc W7 (.slice (some ⟨g5, 0, none⟩) (rs.length + 1) cap5) (rs ++ [⟨.slice A0 N0 P0, .slice A1 N1 P1, .slice A2 N2 P2, .slice A3 N3 P3⟩]) := OwnSl.keepB HO5.out (fun z z1 z2 z3 => by
        rw [← hW7]
        have z4 : W0.heap.size + 1 + 1 ≤ z := z2
        exact (World.putObj_heap_other (show z ≠ W0.heap.size + 1 by omega)).trans (Below.heap_setCell _ _ _ _ (show z ≠ w.heap.size + 1 + 1 + 1 + 1 by omega)))
      rw [hW7] at hs7 ⊢
      clear hW7
      have hob : obk (w.heap.size + 1 + 1 + 1 + 1) W7 = some g5 := by unfold obk; rw [hb7.1]; rfl
      have hg : ∀ k, k < W.heap.size → some k ≠ (Value.slice va rs.length vc).ownBlock → k ≠ g5 := fun k k1 k2 e => by
        rcases HAT.out with h' | h'
        · exact k2 (by rw [e]; exact h')
        · have h2 : some g5 = some (W2.heap.size + 1) := h'
          have := Option.some.inj h2
          omega
      have hkk : ∀ k, k < W.heap.size → ¬ PB X (w.heap.size + 1 + 1 + 1 + 1) (W0.heap.size + 1) h (Value.slice va rs.length vc).ownBlock k → W7.heap[k]? = W.heap[k]? ∧ ¬ PB X (w.heap.size + 1 + 1 + 1 + 1) (W0.heap.size + 1) h (some g5) k := fun k k1 k2 =>
        ⟨hs7 k k1 (fun e => k2 (.inl e)) (fun e => k2 (.inr (.inl e))) (fun e => k2 (.inr (.inr (.inr (.inl e))))), fun k3 => by
          rcases k3 with e | e | e | e | e
          · exact k2 (.inl e)
          · exact k2 (.inr (.inl e))
          · exact k2 (.inr (.inr (.inl e)))
          · exact hg k k1 (fun e => k2 (.inr (.inr (.inr (.inl e))))) (Option.some.inj e)
          · exact k2 (.inr (.inr (.inr (.inr e))))⟩
      have z7 := hB7.size
      have hres : ∀ k, k < w.heap.size + 1 + 1 + 1 + 1 → W7.heap[k]? = W.heap[k]? := fun k hk => hs7 k (by omega) (by omega) (by omega) (fun e => by have := hvo k e.symm; omega)
      have HQ := HQ5.out
      have HQQ := HSET.out
      rw [HQ3.out] at HQ HQQ
      rw [← HREC.out]
      refine ⟨⟨HJ.out.nm, HJ.out.nh, hl7, (hs7 W0.heap.size (by omega) (by omega) (by omega) (fun e => by have := hvo _ e.symm; omega)).trans HJ.out.rd, HJ.out.bl.trans hB7,
        (World.cell?_of_block (a := ⟨w.heap.size + 1 + 1, 0, none⟩) (hres _ (by simp only; omega))).trans HJ.out.r0, (World.frozen?_of_block (a := ⟨w.heap.size + 1 + 1, 0, none⟩) (hres _ (by simp only; omega))).trans HJ.out.f0,
        (World.cell?_of_block (a := ⟨w.heap.size + 1 + 1 + 1, 0, none⟩) (hres _ (by simp only; omega))).trans HJ.out.r1, (World.frozen?_of_block (a := ⟨w.heap.size + 1 + 1 + 1, 0, none⟩) (hres _ (by simp only; omega))).trans HJ.out.f1, hb7.2,
        _, _, hb7.1, hO7, fun e => hg h hh (fun e2 => q4 e2.symm) (Option.some.inj e).symm, ?_⟩, z7, fun k k1 k2 k3 k4 => ?_⟩
      · exact All2.snoc (HQ.mono (fun _ _ g => (All2.mono g (fun _ _ q => q.keep z7 hkk) : All2 _ _ _))) (All2.mono HQQ (fun _ _ q => q.keep z7 hkk))
      · rw [HQ3.out] at k4
        exact ⟨hs7 k k1 k2 k3 k4, by rw [hob]; exact fun e => hg k k1 k4 (Option.some.inj e)⟩
    · intro h pre W J
      obtain ⟨n1, n2, n3, n4, n5, n6⟩ := J.nm
      have zl := heap_lt J.rl
      have HREC := Lib.hid hrec
      have HJ := Lib.hid J
      have hal : Below W.heap.size W (W.alloc (.cells #[.slice none 0 0, .slice none 0 0, .slice none 0 0, .slice none 0 0] 84)) := (Below.refl _ _).alloc (Nat.le_refl _) _
      have hbr := run_beginRound (P := Tryd.prog) ((hal.block (W0.heap.size + 1) zl).trans J.rl) (by rw [hrec])
      refine ⟨rec.fn, _, rec.assign, rec.body, run_yield J.rl (by rw [hrec]; rfl), roundIn_of_wpIn trivial ?_⟩
      clear J
      rw [hrec]
      clear hrec
      gi_wp2
      refine ⟨_, hbr, ?_⟩
      obtain ⟨W2, hW2⟩ : ∃ W2, (W.alloc (.cells #[.slice none 0 0, .slice none 0 0, .slice none 0 0, .slice none 0 0] 84)).putObj (W0.heap.size + 1) (.loop { rec with state := .busy }) = W2 := ⟨_, rfl⟩
      have hs2 : ∀ k, k < W.heap.size → k ≠ W0.heap.size + 1 → W2.heap[k]? = W.heap[k]? := fun k k1 k2 => by rw [← hW2]; exact (World.putObj_heap_other k2).trans (hal.block k k1)
      have hl2 : W2.heap[W0.heap.size + 1]? = some (.loop { rec with state := .busy }) := by rw [← hW2]; exact World.putObj_heap_same (by simp; omega)
      have z2' : W.heap.size + 1 ≤ W2.heap.size := by rw [← hW2]; simp
      have hB2 : Below w.heap.size W W2 := by rw [← hW2]; exact (hal.mono (by omega)).grown (grownBy_putObj' _ _ _) (by simp; omega) (fun k e => by cases e; omega)
      rw [hW2]
      clear hW2 hbr
      have r0 := (World.cell?_of_block (a := ⟨w.heap.size + 1 + 1, 0, none⟩) (hs2 _ (by simp only; omega) (by simp only; omega))).trans HJ.out.r0
      have f0 := (World.frozen?_of_block (a := ⟨w.heap.size + 1 + 1, 0, none⟩) (hs2 _ (by simp only; omega) (by simp only; omega))).trans HJ.out.f0
      have r1 := (World.cell?_of_block (a := ⟨w.heap.size + 1 + 1 + 1, 0, none⟩) (hs2 _ (by simp only; omega) (by simp only; omega))).trans HJ.out.r1
      have f1 := (World.frozen?_of_block (a := ⟨w.heap.size + 1 + 1 + 1, 0, none⟩) (hs2 _ (by simp only; omega) (by simp only; omega))).trans HJ.out.f1
      have rd := (hs2 W0.heap.size (by omega) (by omega)).trans HJ.out.rd
      have hrb : Below w.heap.size w W2 := HJ.out.bl.trans hB2
      have z2 := hB2.size
      clear hs2 hB2
      gi_wp2
      rw [← HREC.out]
      have hl6 : ((W2.setCell ⟨w.heap.size + 1 + 1, 0, none⟩ (.slice none 0 0)).setCell ⟨w.heap.size + 1 + 1 + 1, 0, none⟩ (.bool false)).heap[W0.heap.size + 1]? = some (.loop { rec with state := .busy }) :=
        (Below.heap_setCell _ _ _ _ (by simp only; omega)).trans ((Below.heap_setCell _ _ _ _ (by simp only; omega)).trans hl2)
      have hsame : ∀ k, k ≠ W0.heap.size + 1 → k ≠ w.heap.size + 1 + 1 → k ≠ w.heap.size + 1 + 1 + 1 → ∀ o, (((W2.setCell ⟨w.heap.size + 1 + 1, 0, none⟩ (.slice none 0 0)).setCell ⟨w.heap.size + 1 + 1 + 1, 0, none⟩ (.bool false)).putObj (W0.heap.size + 1) o).heap[k]? = W2.heap[k]? := fun k k1 k2 k3 o =>
        (World.putObj_heap_other k1).trans ((Below.heap_setCell _ _ _ _ k3).trans (Below.heap_setCell _ _ _ _ k2))
      have hput : ∀ k, k ≠ W0.heap.size + 1 → ∀ o, (((W2.setCell ⟨w.heap.size + 1 + 1, 0, none⟩ (.slice none 0 0)).setCell ⟨w.heap.size + 1 + 1 + 1, 0, none⟩ (.bool false)).putObj (W0.heap.size + 1) o).heap[k]? = ((W2.setCell ⟨w.heap.size + 1 + 1, 0, none⟩ (.slice none 0 0)).setCell ⟨w.heap.size + 1 + 1 + 1, 0, none⟩ (.bool false)).heap[k]? := fun k k1 o => World.putObj_heap_other k1
      refine ⟨_, _, run_endRound (some .ret) hl6, rfl, ⟨World.putObj_heap_same (by simp; omega), (hsame W0.heap.size (by omega) (by omega) (by omega) _).trans rd, ?_, ?_, ?_, ?_, ?_⟩⟩
      · exact ((hrb.setCell (p := ⟨w.heap.size + 1 + 1, 0, none⟩) (by simp only; omega) _).setCell (p := ⟨w.heap.size + 1 + 1 + 1, 0, none⟩) (by simp only; omega) _).grown (grownBy_putObj' _ _ _) (by simp; omega) (fun k e => by cases e; omega)
      · refine (World.cell?_of_block (a := ⟨w.heap.size + 1 + 1, 0, none⟩) (hput _ (by simp only; omega) _)).trans ?_
        rw [World.cell?_setCell_other _ _ _ _ (fun e => by have := congrArg Addr.block e; simp only at this; omega)]
        exact World.cell?_setCell_same' _ _ _ (by rw [r0]; rfl)
      · refine (World.frozen?_of_block (a := ⟨w.heap.size + 1 + 1, 0, none⟩) (hput _ (by simp only; omega) _)).trans ?_
        rw [World.frozen?_setCell, World.frozen?_setCell]; exact f0
      · refine (World.cell?_of_block (a := ⟨w.heap.size + 1 + 1 + 1, 0, none⟩) (hput _ (by simp only; omega) _)).trans ?_
        refine World.cell?_setCell_same' _ _ _ ?_
        rw [World.cell?_setCell_other _ _ _ _ (fun e => by have := congrArg Addr.block e; simp only at this; omega), r1]; rfl
      · refine (World.frozen?_of_block (a := ⟨w.heap.size + 1 + 1 + 1, 0, none⟩) (hput _ (by simp only; omega) _)).trans ?_
        rw [World.frozen?_setCell, World.frozen?_setCell]; exact f1
  have HHR := Lib.hid HR
  clear HR
  refine (iter_in X (w.heap.size + 1 + 1 + 1 + 1) (W0.heap.size + 1) (w.heap.size + 1 + 1 + 1 + 1 + 1) (w.heap.size + 1 + 1 + 1 + 1 + 1 + 1) a b v0 v1 v2 v3 u0 u1 u2 u3 _ _ HHR.out W1 ((ht.below hb0).below (hbl1)) ha hb ?qn ?qc (by omega) (fun k hk => by have := hXX k hk; omega) ?qp HJ1).mono ?_
  case qn => exact ⟨by omega, by omega, by omega, by omega, by omega, by omega⟩
  case qc =>
    have hob : obk (w.heap.size + 1 + 1 + 1 + 1) W1 = none := by
      unfold obk
      rw [(hbl1.cell (p := ⟨w.heap.size + 1 + 1 + 1 + 1, 0, none⟩) (by simp only; omega)).trans cB.1]
      rfl
    have hbw := hb0.trans (hbl1.mono (by omega))
    refine ⟨by omega, by omega, by omega, by omega, fun j v hj => ?_, fun j v hj => ?_, by rw [hob]; exact fun e => (by cases e), by rw [hob]; exact fun e => (by cases e), by rw [hob]; exact fun e => (by cases e), ?_, ?_⟩
    · refine (hbl1.cell (p := ⟨w.heap.size + 1 + 1 + 1 + 1 + 1, j, none⟩) (by simp only; omega)).trans ?_
      rw [HCS.out]; simpa using hj
    · refine (hbl1.cell (p := ⟨w.heap.size + 1 + 1 + 1 + 1 + 1 + 1, j, none⟩) (by simp only; omega)).trans ?_
      rw [HCO.out]; simpa using hj
    · rw [hob]
      refine hs.mono (fun _ _ g => SpV.older g hbw (fun k hk => ?_))
      rcases hk with e | e | e | e | e <;> first | (exact .inr e) | (left; omega) | cases e
    · rw [hob]
      refine hu.mono (fun _ _ g => SpV.older g hbw (fun k hk => ?_))
      rcases hk with e | e | e | e | e <;> first | (exact .inr e) | (left; omega) | cases e
  case qp =>
    have hob : obk (w.heap.size + 1 + 1 + 1 + 1) W1 = none := by
      unfold obk
      rw [(hbl1.cell (p := ⟨w.heap.size + 1 + 1 + 1 + 1, 0, none⟩) (by simp only; omega)).trans cB.1]
      rfl
    have hbw := hb0.trans (hbl1.mono (by omega))
    intro h hh
    rw [hob]
    refine ⟨hs.mono (fun _ _ g => SpV.older g hbw (fun k hk => ?_)), hu.mono (fun _ _ g => SpV.older g hbw (fun k hk => ?_))⟩
    · rcases hk with e | e | e | e | e <;> first | (exact .inr e) | (left; omega) | cases e
    · rcases hk with e | e | e | e | e <;> first | (exact .inr e) | (left; omega) | cases e
  rintro e W2 ⟨⟨v, rfl⟩, (⟨h, hJ, hall⟩ | ⟨hX, hall⟩)⟩
  · have hel := run_endLoop (P := Tryd.prog) hJ.rl (by rw [hrec]; simp)
    have hpn : rec.pending = none := by rw [hrec]
    refine ⟨rec.pending, _, hel, ?_⟩
    obtain ⟨v, rs, q1, q2, q3, q4⟩ := hJ.own
    have zl := heap_lt hJ.rl
    have HALL := Lib.hid hall
    have HJ := Lib.hid hJ
    have HREC := Lib.hid hrec
    have hvo : ∀ z, v.ownBlock = some z → W0.heap.size + 1 + 1 ≤ z ∧ z < W2.heap.size := fun z hz => World.ownsRow.lt q2 z hz
    obtain ⟨va, vc, rfl⟩ : ∃ a c, v = .slice a rs.length c := by
      rcases OwnSl.form q2 with ⟨h, h'⟩ | ⟨g, c, h, _⟩
      · exact ⟨_, _, by rw [h', h]; rfl⟩
      · exact ⟨_, _, h⟩
    have HQ2 := Lib.hid q2
    have HQ4 := Lib.hid q4
    obtain ⟨W3, hW3⟩ : ∃ W3, W2.putObj (W0.heap.size + 1) (.loop { rec with state := .exhausted }) = W3 := ⟨_, rfl⟩
    have hs3 : ∀ k, k ≠ W0.heap.size + 1 → W3.heap[k]? = W2.heap[k]? := fun k hk => by rw [← hW3]; exact World.putObj_heap_other hk
    have z3 : W2.heap.size ≤ W3.heap.size := by rw [← hW3]; simp
    have z3' : W3.heap.size ≤ W2.heap.size := by rw [← hW3]; simp
    have hB3 : Below w.heap.size W2 W3 := by rw [← hW3]; exact (Below.refl _ _).grown (grownBy_putObj' _ _ _) (by omega) (fun k e => by cases e; omega)
    rw [hW3, hpn]
    clear hW3 hel hrec hpn
    have r0 := (World.cell?_of_block (a := ⟨w.heap.size + 1 + 1, 0, none⟩) (hs3 _ (by simp only; omega))).trans hJ.r0
    have f0 := (World.frozen?_of_block (a := ⟨w.heap.size + 1 + 1, 0, none⟩) (hs3 _ (by simp only; omega))).trans hJ.f0
    have r1 := (World.cell?_of_block (a := ⟨w.heap.size + 1 + 1 + 1, 0, none⟩) (hs3 _ (by simp only; omega))).trans hJ.r1
    have f1 := (World.frozen?_of_block (a := ⟨w.heap.size + 1 + 1 + 1, 0, none⟩) (hs3 _ (by simp only; omega))).trans hJ.f1
    have b0 := (World.cell?_of_block (a := ⟨w.heap.size + 1 + 1 + 1 + 1, 0, none⟩) (hs3 _ (by simp only; omega))).trans q1
    have hrd3 := (hs3 W0.heap.size (by omega)).trans hJ.rd
    clear hJ q1 q2 q4 hall
    gi_wp2
    have hD : ((W3.setCell ⟨w.heap.size + 1 + 1, 0, none⟩ (.slice va rs.length vc)).setCell ⟨w.heap.size + 1 + 1 + 1, 0, none⟩ (.bool true)).heap[W0.heap.size]? = some (.deferred (some [])) :=
      (Below.heap_setCell _ _ _ _ (by simp only; omega)).trans ((Below.heap_setCell _ _ _ _ (by simp only; omega)).trans hrd3)
    refine ⟨by simp, .inl ⟨_, _, rfl, run_takeDeferred hD, ?_⟩⟩
    obtain ⟨W4, hW4⟩ : ∃ W4, ((W3.setCell ⟨w.heap.size + 1 + 1, 0, none⟩ (.slice va rs.length vc)).setCell ⟨w.heap.size + 1 + 1 + 1, 0, none⟩ (.bool true)) = W4 := ⟨_, rfl⟩
    have hs4 : ∀ k, k ≠ w.heap.size + 1 + 1 → k ≠ w.heap.size + 1 + 1 + 1 → W4.heap[k]? = W3.heap[k]? := fun k k1 k2 => by rw [← hW4]; exact (Below.heap_setCell _ _ _ _ k2).trans (Below.heap_setCell _ _ _ _ k1)
    have hc4 : ∀ p : Addr, p ≠ ⟨w.heap.size + 1 + 1, 0, none⟩ → p ≠ ⟨w.heap.size + 1 + 1 + 1, 0, none⟩ → W4.cell? p = W3.cell? p := fun p k1 k2 => by rw [← hW4, World.cell?_setCell_other _ _ _ _ k2.symm, World.cell?_setCell_other _ _ _ _ k1.symm]
    have c0 : W4.cell? ⟨w.heap.size + 1 + 1, 0, none⟩ = some (.slice va rs.length vc) := by
      rw [← hW4, World.cell?_setCell_other _ _ _ _ (fun e => by have := congrArg Addr.block e; simp only at this; omega)]
      exact World.cell?_setCell_same' _ _ _ (by rw [r0]; rfl)
    have c1 : W4.cell? ⟨w.heap.size + 1 + 1 + 1, 0, none⟩ = some (.bool true) := by
      rw [← hW4]
      refine World.cell?_setCell_same' _ _ _ ?_
      rw [World.cell?_setCell_other _ _ _ _ (fun e => by have := congrArg Addr.block e; simp only at this; omega), r1]; rfl
    have z4 : W3.heap.size ≤ W4.heap.size := by rw [← hW4]; simp
    have hB4 : Below w.heap.size W3 W4 := by rw [← hW4]; exact ((Below.refl _ _).setCell (p := ⟨w.heap.size + 1 + 1, 0, none⟩) (by simp only; omega) _).setCell (p := ⟨w.heap.size + 1 + 1 + 1, 0, none⟩) (by simp only; omega) _
    rw [hW4] at hD ⊢
    clear hW4
    obtain ⟨W5, hW5⟩ : ∃ W5, W4.putObj W0.heap.size (.deferred none) = W5 := ⟨_, rfl⟩
    have hs5 : ∀ k, k ≠ W0.heap.size → W5.heap[k]? = W4.heap[k]? := fun k hk => by rw [← hW5]; exact World.putObj_heap_other hk
    have hB5 : Below w.heap.size W4 W5 := by rw [← hW5]; exact (Below.refl _ _).grown (grownBy_putObj' _ _ _) (by omega) (fun k e => by cases e; omega)
    have z5 := hB5.size
    rw [hW5]
    clear hW5
    have e0 := (World.cell?_of_block (a := ⟨w.heap.size + 1 + 1, 0, none⟩) (hs5 _ (by simp only; omega))).trans c0
    have e1 := (World.cell?_of_block (a := ⟨w.heap.size + 1 + 1 + 1, 0, none⟩) (hs5 _ (by simp only; omega))).trans c1
    refine ⟨.tuple #[.slice va rs.length vc, .bool true], by simp [results, Tryd.results60, go_sem, e0, e1], _, by rw [HALL.out], fun _ => ⟨rs, ?_, HQ4.out.mono (fun r bx g => (All2.mono g (fun vv xs q => ?_) : All2 _ _ _))⟩, HJ.out.bl.trans (hB3.trans (hB4.trans hB5))⟩
    · exact OwnSl.mono (OwnSl.keepB HQ2.out (fun z z1 z2 z3 => by
        have := hvo z z1
        exact (hs5 z (by omega)).trans ((hs4 z (by omega) (by omega)).trans (hs3 z (by omega))))) (by omega)
    · refine ⟨Sps.ints q.1 (by omega) (fun p n g2 => ?_), fun q' n c e hne hp => q.2 q' n c e hne (hp.elim (fun e => .inr (.inr (.inr (.inl e)))) (fun e => .inr (.inr (.inr (.inr e)))))⟩
      have n1 := not_cell HJ.out.rl rfl g2
      have n2 := not_cell HJ.out.rd rfl g2
      refine (World.cell?_of_block (hs5 p.block n2)).trans ((hc4 p (fun e => ?_) (fun e => ?_)).trans ((World.cell?_of_block (hs3 p.block n1)).trans g2))
      · rw [e, HJ.out.r0] at g2; cases g2
      · rw [e, HJ.out.r1] at g2; cases g2
  · have hel := run_endLoop (P := Tryd.prog) hX.rl (by simp)
    refine ⟨some .ret, _, hel, ?_⟩
    gi_wp2
    refine ⟨by simp, .inl ⟨_, _, rfl, run_takeDeferred ((World.putObj_heap_other (by omega)).trans hX.rd), ?_⟩⟩
    obtain ⟨W3, hW3⟩ : ∃ W3, W2.putObj (W0.heap.size + 1) (.loop { ({ rec with state := .done, pending := some .ret } : Loop) with state := .exhausted }) = W3 := ⟨_, rfl⟩
    have hs3 : ∀ k, k ≠ W0.heap.size + 1 → W3.heap[k]? = W2.heap[k]? := fun k hk => by rw [← hW3]; exact World.putObj_heap_other hk
    have z3 : W2.heap.size ≤ W3.heap.size := by rw [← hW3]; simp
    have hB3 : Below w.heap.size W2 W3 := by rw [← hW3]; exact (Below.refl _ _).grown (grownBy_putObj' _ _ _) (by have := hX.bl.size; omega) (fun k e => by cases e; omega)
    have HALL := Lib.hid hall
    have HX := Lib.hid hX
    rw [hrec] at hW3
    rw [hW3]
    clear hW3 hel hrec hX hall
    obtain ⟨W5, hW5⟩ : ∃ W5, W3.putObj W0.heap.size (.deferred none) = W5 := ⟨_, rfl⟩
    have hs5 : ∀ k, k ≠ W0.heap.size → W5.heap[k]? = W3.heap[k]? := fun k hk => by rw [← hW5]; exact World.putObj_heap_other hk
    have hB5 : Below w.heap.size W3 W5 := by rw [← hW5]; exact (Below.refl _ _).grown (grownBy_putObj' _ _ _) (by have := HX.out.bl.size; omega) (fun k e => by cases e; omega)
    rw [hW5]
    clear hW5
    have e0 := (World.cell?_of_block (a := ⟨w.heap.size + 1 + 1, 0, none⟩) ((hs5 _ (by simp only; omega)).trans (hs3 _ (by simp only; omega)))).trans HX.out.r0
    have e1 := (World.cell?_of_block (a := ⟨w.heap.size + 1 + 1 + 1, 0, none⟩) ((hs5 _ (by simp only; omega)).trans (hs3 _ (by simp only; omega)))).trans HX.out.r1
    exact ⟨.tuple #[.slice none 0 0, .bool false], by simp [results, Tryd.results60, go_sem, e0, e1], _, by rw [HALL.out], fun h => (by rw [HALL.out] at h; cases h), HX.out.bl.trans (hB3.trans hB5)⟩
theorem cut_r {X : Nat → Prop} {a b : Bx} {v0 v1 v2 v3 u0 u1 u2 u3 : Value} {w : World} {r : Bool} (h : (bcut a b).all bvalid = r) (ht : Tab w) (hXX : ∀ k, X k → k < w.heap.size) (hs : All2 (SpV X w) [v0, v1, v2, v3] a) (hu : All2 (SpV X w) [u0, u1, u2, u3] b) (ha : bvalid a = true) (hb : bvalid b = true) :
    Calls Tryd.prog 60 #[.agg #[v0, v1, v2, v3], .agg #[u0, u1, u2, u3]] w fun e w' => ∃ z, e = .returned (.tuple #[z, .bool r]) ∧ (r = true → SdO X w.heap.size w' z (bcut a b)) ∧ Below w.heap.size w w' := by
  subst h
  exact cut_any X a b v0 v1 v2 v3 u0 u1 u2 u3 w ht hXX hs hu ha hb
theorem drop_cons {α : Type} {xs : List α} {k : Nat} {x : α} (h : xs[k]? = some x) : xs.drop k = x :: xs.drop (k + 1) := by
  obtain ⟨h1, h2⟩ := List.getElem?_eq_some_iff.1 h
  rw [List.drop_eq_getElem_cons h1, h2]
/-- Boxes whose sets lie in no block of X. -/
def IssX (X : Nat → Prop) (w : World) (v : Value) (bs : List Bx) : Prop := ∃ rs, SlFr 0 4 R4.enc w v rs ∧ All2 (fun (r : R4) b => All2 (SpV X w) [r.v0, r.v1, r.v2, r.v3] b) rs bs
theorem IssX.iss {X : Nat → Prop} {w : World} {v : Value} {bs : List Bx} (h : IssX X w v bs) : Iss 0 w v bs :=
  let ⟨rs, h1, h2⟩ := h
  ⟨rs, h1, h2.mono (fun _ _ g => (All2.mono g (fun _ _ q => q.1) : All2 _ _ _))⟩
theorem IssX.form {X : Nat → Prop} {w : World} {v : Value} {bs : List Bx} (h : IssX X w v bs) : ∃ a cap, v = .slice a bs.length cap ∧ bs.length ≤ cap ∧ cap ≤ maxLen := h.iss.form
theorem IssX.at {X : Nat → Prop} {w : World} {a : Option Addr} {n cap : Nat} {bs : List Bx} (h : IssX X w (.slice a n cap) bs) {k : Nat} {f : Bx} (hk : bs[k]? = some f) :
    ∃ b o v0 v1 v2 v3, a = some ⟨b, o, none⟩ ∧ b < w.heap.size ∧ w.cell? ⟨b, o + k * 4, none⟩ = some v0 ∧ w.cell? ⟨b, o + k * 4 + 1, none⟩ = some v1 ∧ w.cell? ⟨b, o + k * 4 + 2, none⟩ = some v2 ∧ w.cell? ⟨b, o + k * 4 + 3, none⟩ = some v3 ∧ All2 (SpV X w) [v0, v1, v2, v3] f := by
  obtain ⟨rs, ⟨a', cap', he, _, _, hx⟩, h2⟩ := h
  obtain ⟨rfl, _, _⟩ := Value.slice.inj he
  obtain ⟨r, hr, hs⟩ := h2.left hk
  obtain ⟨b, o, ha, _, hb, hc⟩ := hx k r hr
  exact ⟨b, o, r.v0, r.v1, r.v2, r.v3, ha, hb, by simpa using hc 0 _ rfl, hc 1 _ rfl, hc 2 _ rfl, hc 3 _ rfl, hs⟩
/-- Boxes in a list of the call's own under way. -/
def NX (X : Nat → Prop) (lo : Nat) (w : World) (v : Value) (bs : List Bx) : Prop :=
  ∃ rs, OwnSl lo 84 4 R4.enc w v rs ∧ All2 (fun (r : R4) b => All2 (SpV (fun k => some k = v.ownBlock ∨ X k) w) [r.v0, r.v1, r.v2, r.v3] b) rs bs
theorem NX.below {X : Nat → Prop} {lo : Nat} {w w' : World} {v : Value} {bs : List Bx} (h : NX X lo w v bs) (hb : Below w.heap.size w w') : NX X lo w' v bs := by
  obtain ⟨rs, h1, h2⟩ := h
  exact ⟨rs, OwnSl.kept h1 hb, h2.mono (fun _ _ g => (All2.mono g (fun _ _ q => q.keep hb.size (fun k k1 k2 => ⟨hb.block k k1, k2⟩)) : All2 _ _ _))⟩
theorem NX.form {X : Nat → Prop} {lo : Nat} {w : World} {v : Value} {bs : List Bx} (h : NX X lo w v bs) : ∃ a c, v = .slice a bs.length c := by
  obtain ⟨rs, h1, h2⟩ := h
  rw [← h2.1]
  rcases OwnSl.form h1 with ⟨h, h'⟩ | ⟨g, c, h, _⟩
  · exact ⟨_, _, by rw [h', h]; rfl⟩
  · exact ⟨_, _, h⟩
/-- The pieces are put behind those that are there. -/
theorem NX.push {X : Nat → Prop} {lo : Nat} {w w2 : World} {v v' : Value} {bs cs : List Bx} {ws : List R4} {H : Nat} (hc : All2 (fun (r : R4) b => All2 (SpV (fun k => some k = v.ownBlock ∨ X k) w) [r.v0, r.v1, r.v2, r.v3] b) ws cs)
    (hg : w.heap.size ≤ w2.heap.size ∧ ∀ k, k < w.heap.size → some k ≠ v.ownBlock → w2.heap[k]? = w.heap[k]?) (hat : ∀ z, v'.ownBlock = some z → v.ownBlock = some z ∨ z = H) (hH : w.heap.size ≤ H) {rs : List R4}
    (h2 : All2 (fun (r : R4) b => All2 (SpV (fun k => some k = v.ownBlock ∨ X k) w) [r.v0, r.v1, r.v2, r.v3] b) rs bs) (hown : OwnSl lo 84 4 R4.enc w2 v' (rs ++ ws)) : NX X lo w2 v' (bs ++ cs) := by
  have key : ∀ k, k < w.heap.size → ¬ (some k = v.ownBlock ∨ X k) → w2.heap[k]? = w.heap[k]? ∧ ¬ (some k = v'.ownBlock ∨ X k) := fun k k1 k2 => ⟨hg.2 k k1 (fun e => k2 (.inl e)), fun e => by
    rcases e with e | e
    · rcases hat k e.symm with h | h
      · exact k2 (.inl h.symm)
      · omega
    · exact k2 (.inr e)⟩
  refine ⟨rs ++ ws, hown, ?_⟩
  have e1 := h2.mono (S := fun (r : R4) b => All2 (SpV (fun k => some k = v'.ownBlock ∨ X k) w2) [r.v0, r.v1, r.v2, r.v3] b) (fun _ _ g => All2.mono g (fun _ _ q => q.keep hg.1 key))
  have e2 := hc.mono (S := fun (r : R4) b => All2 (SpV (fun k => some k = v'.ownBlock ∨ X k) w2) [r.v0, r.v1, r.v2, r.v3] b) (fun _ _ g => All2.mono g (fun _ _ q => q.keep hg.1 key))
  refine ⟨by rw [List.length_append, List.length_append, e1.1, e2.1], fun k x y hx hy => ?_⟩
  by_cases hk : k < rs.length
  · rw [List.getElem?_append_left hk] at hx
    rw [List.getElem?_append_left (by rw [← e1.1]; exact hk)] at hy
    exact e1.2 k x y hx hy
  · rw [List.getElem?_append_right (by omega)] at hx
    rw [List.getElem?_append_right (by rw [← e1.1]; omega), ← e1.1] at hy
    exact e2.2 _ x y hx hy
theorem run_append_nothing {P : Program} {w : World} (t ty e : TypeId) (i : TypeInfo) (ht : P.underlying t = some (.slice e)) (hi : P.info? e = some i) (a b : Option Addr) (n cap : Nat) (hn : n ≤ cap) (c : Nat) (ha : a = none → n = 0 ∧ cap = 0) :
    (Builtin.append_ #[t, t] ty #[.slice a n cap, .slice b 0 c]).run P w = .ok (.slice a n cap) w := by
  have hz0 : ∀ w, (Builtin.firstCells i.size 0 (.slice b 0 c)).run P w = .ok #[] w := fun w => by
    cases b <;> simp [Builtin.firstCells, loadCells, loadCellsFrom]
  cases a with
  | some ad => simp [Builtin.append_, run_underlying ht, sizeOf, typeInfo, hi, Builtin.lenOf, hz0, storeCells, Result.andThen, hn]
  | none =>
    obtain ⟨rfl, rfl⟩ := ha rfl
    simp [Builtin.append_, run_underlying ht, sizeOf, typeInfo, hi, Builtin.lenOf, hz0, Result.andThen]
end Go.Proofs.YtfcbbahlhjdefaaDoor
