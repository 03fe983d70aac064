/- What the boxes of a region leave of a box: the program's walk. -/
import Derived.Test.YtnnmkdaioajkkaaDoorRgC
namespace Go.Proofs.YtnnmkdaioajkkaaDoor
open Go.RowKit
theorem bless1_succ {L : List Bx} {x p : Bx} {j : Nat} (h : L[j]? = some p) : bless1 (L.take (j + 1)) x = bless1 (L.take j) x ++ bcut p x := by
  unfold bless1
  rw [List.take_add_one, h, List.flatMap_append]
  simp
theorem bless1_split {L : List Bx} {x p : Bx} {j : Nat} (h : L[j]? = some p) : bless1 L x = bless1 (L.take j) x ++ bcut p x ++ bless1 (L.drop (j + 1)) x := by
  conv => lhs; rw [split_at h]
  unfold bless1
  rw [List.flatMap_append, List.flatMap_cons, List.append_assoc]
theorem bless1_bad {L : List Bx} {x p : Bx} {j : Nat} (h : L[j]? = some p) (hb : (bcut p x).all bvalid = false ∨ 400 < (bless1 (L.take j) x).length + (bcut p x).length) : rvalid (bless1 L x) = false := by
  rw [← Bool.not_eq_true]
  intro hv
  obtain ⟨h1, h2⟩ := rvalid_all hv
  rw [bless1_split h] at h1 h2
  rcases hb with hb | hb
  · rw [← Bool.not_eq_true, List.all_eq_true] at hb
    exact hb (fun z hz => h2 z (by simp [hz]))
  · simp only [List.length_append] at h1
    omega
theorem bless_bad {L : List Bx} {x : Bx} {xs : List Bx} (h : rvalid (bless1 L x) = false) : bless L (x :: xs) = none := by
  unfold bless; rw [h]; rfl
theorem bless_ok {L : List Bx} {x : Bx} {xs : List Bx} (h : rvalid (bless1 L x) = true) : bless L (x :: xs) = bless (bless1 L x) xs := by
  conv => lhs; unfold bless
  rw [h]; rfl
theorem drop_cons {α : Type} {xs : List α} {k : Nat} {x : α} (h : xs[k]? = some x) : xs.drop k = x :: xs.drop (k + 1) := by
  obtain ⟨h1, h2⟩ := List.getElem?_eq_some_iff.1 h
  rw [List.drop_eq_getElem_cons h1, h2]
/-- Boxes whose sets lie in no block of X. -/
def IssX (X : Nat → Prop) (w : World) (v : Value) (bs : List Bx) : Prop := ∃ rs, SlFr 0 4 R4.enc w v rs ∧ All2 (fun (r : R4) b => All2 (SpV X w) [r.v0, r.v1, r.v2, r.v3] b) rs bs
theorem IssX.iss {X : Nat → Prop} {w : World} {v : Value} {bs : List Bx} (h : IssX X w v bs) : Iss 0 w v bs :=
  let ⟨rs, h1, h2⟩ := h
  ⟨rs, h1, h2.mono (fun _ _ g => (All2.mono g (fun _ _ q => q.1) : All2 _ _ _))⟩
theorem IssX.below {X : Nat → Prop} {w w' : World} {v : Value} {bs : List Bx} (h : IssX X w v bs) (hb : Below w.heap.size w w') : IssX X w' v bs :=
  let ⟨rs, h1, h2⟩ := h
  ⟨rs, h1.below hb, h2.mono (fun _ _ g => (All2.mono g (fun _ _ q => q.below hb) : All2 _ _ _))⟩
theorem IssX.form {X : Nat → Prop} {w : World} {v : Value} {bs : List Bx} (h : IssX X w v bs) : ∃ a cap, v = .slice a bs.length cap ∧ bs.length ≤ cap ∧ cap ≤ maxLen := h.iss.form
theorem IssX.sub {X X' : Nat → Prop} {w : World} {v : Value} {bs : List Bx} (h : IssX X w v bs) (hX : ∀ k, X' k → X k) : IssX X' w v bs :=
  let ⟨rs, h1, h2⟩ := h
  ⟨rs, h1, h2.mono (fun _ _ g => (All2.mono g (fun _ _ q => q.sub hX) : All2 _ _ _))⟩
theorem IssX.at {X : Nat → Prop} {w : World} {a : Option Addr} {n cap : Nat} {bs : List Bx} (h : IssX X w (.slice a n cap) bs) {k : Nat} {f : Bx} (hk : bs[k]? = some f) :
    ∃ b o v0 v1 v2 v3, a = some ⟨b, o, none⟩ ∧ b < w.heap.size ∧ w.cell? ⟨b, o + k * 4, none⟩ = some v0 ∧ w.cell? ⟨b, o + k * 4 + 1, none⟩ = some v1 ∧ w.cell? ⟨b, o + k * 4 + 2, none⟩ = some v2 ∧ w.cell? ⟨b, o + k * 4 + 3, none⟩ = some v3 ∧ All2 (SpV X w) [v0, v1, v2, v3] f := by
  obtain ⟨rs, ⟨a', cap', he, _, _, hx⟩, h2⟩ := h
  obtain ⟨rfl, _, _⟩ := Value.slice.inj he
  obtain ⟨r, hr, hs⟩ := h2.left hk
  obtain ⟨b, o, ha, _, hb, hc⟩ := hx k r hr
  exact ⟨b, o, r.v0, r.v1, r.v2, r.v3, ha, hb, by simpa using hc 0 _ rfl, hc 1 _ rfl, hc 2 _ rfl, hc 3 _ rfl, hs⟩
theorem Iss.old {X : Nat → Prop} {lo : Nat} {w0 w : World} {v : Value} {bs : List Bx} (h : Iss lo w0 v bs) (hb : Below w0.heap.size w0 w) (hX : ∀ k, X k → w0.heap.size ≤ k) : IssX X w v bs :=
  let ⟨rs, h1, h2⟩ := h
  ⟨rs, (h1.mono (Nat.zero_le _)).below hb, h2.mono (fun _ _ g => (All2.mono g (fun _ _ q => SpV.old q hb hX) : All2 _ _ _))⟩
theorem Iss.x {lo : Nat} {w : World} {v : Value} {bs : List Bx} (h : Iss lo w v bs) : IssX (fun _ => False) w v bs :=
  let ⟨rs, h1, h2⟩ := h
  ⟨rs, h1.mono (Nat.zero_le _), h2.mono (fun _ _ g => (All2.mono g (fun _ _ q => SpV.no q) : All2 _ _ _))⟩
/-- Boxes in a list of the call's own under way. -/
def NX (X : Nat → Prop) (lo : Nat) (w : World) (v : Value) (bs : List Bx) : Prop :=
  ∃ rs, OwnSl lo 92 4 R4.enc w v rs ∧ All2 (fun (r : R4) b => All2 (SpV (fun k => some k = v.ownBlock ∨ X k) w) [r.v0, r.v1, r.v2, r.v3] b) rs bs
theorem NX.issx {X : Nat → Prop} {lo : Nat} {w : World} {v : Value} {bs : List Bx} (h : NX X lo w v bs) : IssX X w v bs := by
  obtain ⟨rs, h1, h2⟩ := h
  exact ⟨rs, SlFr.mono (OwnSl.fr (sz := 4) (enc := R4.enc) (fun _ => rfl) h1) (Nat.zero_le _), h2.mono (fun _ _ g => (All2.mono g (fun _ _ q => q.sub (fun _ h => .inr h)) : All2 _ _ _))⟩
theorem NX.iss {X : Nat → Prop} {lo : Nat} {w : World} {v : Value} {bs : List Bx} (h : NX X lo w v bs) : Iss 0 w v bs := by
  obtain ⟨rs, h1, h2⟩ := h
  exact ⟨rs, SlFr.mono (OwnSl.fr (sz := 4) (enc := R4.enc) (fun _ => rfl) h1) (Nat.zero_le _), h2.mono (fun _ _ g => (All2.mono g (fun _ _ q => q.1) : All2 _ _ _))⟩
theorem NX.below {X : Nat → Prop} {lo : Nat} {w w' : World} {v : Value} {bs : List Bx} (h : NX X lo w v bs) (hb : Below w.heap.size w w') : NX X lo w' v bs := by
  obtain ⟨rs, h1, h2⟩ := h
  exact ⟨rs, OwnSl.kept h1 hb, h2.mono (fun _ _ g => (All2.mono g (fun _ _ q => q.keep hb.size (fun k k1 k2 => ⟨hb.block k k1, k2⟩)) : All2 _ _ _))⟩
theorem NX.form {X : Nat → Prop} {lo : Nat} {w : World} {v : Value} {bs : List Bx} (h : NX X lo w v bs) : ∃ a c, v = .slice a bs.length c := by
  obtain ⟨rs, h1, h2⟩ := h
  rw [← h2.1]
  rcases OwnSl.form h1 with ⟨h, h'⟩ | ⟨g, c, h, _⟩
  · exact ⟨_, _, by rw [h', h]; rfl⟩
  · exact ⟨_, _, h⟩
/-- The pieces are put behind those that are there. -/
theorem NX.push {X : Nat → Prop} {lo : Nat} {w w2 : World} {v v' : Value} {bs cs : List Bx} {ws : List R4} {H : Nat} (hc : All2 (fun (r : R4) b => All2 (SpV (fun k => some k = v.ownBlock ∨ X k) w) [r.v0, r.v1, r.v2, r.v3] b) ws cs)
    (hg : w.heap.size ≤ w2.heap.size ∧ ∀ k, k < w.heap.size → some k ≠ v.ownBlock → w2.heap[k]? = w.heap[k]?) (hat : ∀ z, v'.ownBlock = some z → v.ownBlock = some z ∨ z = H) (hH : w.heap.size ≤ H) {rs : List R4}
    (h2 : All2 (fun (r : R4) b => All2 (SpV (fun k => some k = v.ownBlock ∨ X k) w) [r.v0, r.v1, r.v2, r.v3] b) rs bs) (hown : OwnSl lo 92 4 R4.enc w2 v' (rs ++ ws)) : NX X lo w2 v' (bs ++ cs) := by
  have key : ∀ k, k < w.heap.size → ¬ (some k = v.ownBlock ∨ X k) → w2.heap[k]? = w.heap[k]? ∧ ¬ (some k = v'.ownBlock ∨ X k) := fun k k1 k2 => ⟨hg.2 k k1 (fun e => k2 (.inl e)), fun e => by
    rcases e with e | e
    · rcases hat k e.symm with h | h
      · exact k2 (.inl h.symm)
      · omega
    · exact k2 (.inr e)⟩
  refine ⟨rs ++ ws, hown, ?_⟩
  have e1 := h2.mono (S := fun (r : R4) b => All2 (SpV (fun k => some k = v'.ownBlock ∨ X k) w2) [r.v0, r.v1, r.v2, r.v3] b) (fun _ _ g => All2.mono g (fun _ _ q => q.keep hg.1 key))
  have e2 := hc.mono (S := fun (r : R4) b => All2 (SpV (fun k => some k = v'.ownBlock ∨ X k) w2) [r.v0, r.v1, r.v2, r.v3] b) (fun _ _ g => All2.mono g (fun _ _ q => q.keep hg.1 key))
  refine ⟨by rw [List.length_append, List.length_append, e1.1, e2.1], fun k x y hx hy => ?_⟩
  by_cases hk : k < rs.length
  · rw [List.getElem?_append_left hk] at hx
    rw [List.getElem?_append_left (by rw [← e1.1]; exact hk)] at hy
    exact e1.2 k x y hx hy
  · rw [List.getElem?_append_right (by omega)] at hx
    rw [List.getElem?_append_right (by rw [← e1.1]; omega), ← e1.1] at hy
    exact e2.2 _ x y hx hy
theorem run_append_nothing {P : Program} {w : World} (t ty e : TypeId) (i : TypeInfo) (ht : P.underlying t = some (.slice e)) (hi : P.info? e = some i) (a b : Option Addr) (n cap : Nat) (hn : n ≤ cap) (c : Nat) (ha : a = none → n = 0 ∧ cap = 0) :
    (Builtin.append_ #[t, t] ty #[.slice a n cap, .slice b 0 c]).run P w = .ok (.slice a n cap) w := by
  have hz0 : ∀ w, (Builtin.firstCells i.size 0 (.slice b 0 c)).run P w = .ok #[] w := fun w => by
    cases b <;> simp [Builtin.firstCells, loadCells, loadCellsFrom]
  cases a with
  | some ad => simp [Builtin.append_, run_underlying ht, sizeOf, typeInfo, hi, Builtin.lenOf, hz0, storeCells, Result.andThen, hn]
  | none =>
    obtain ⟨rfl, rfl⟩ := ha rfl
    simp [Builtin.append_, run_underlying ht, sizeOf, typeInfo, hi, Builtin.lenOf, hz0, Result.andThen]
set_option maxHeartbeats 4000000 in
set_option maxRecDepth 100000 in
theorem lessX_any {X : Nat → Prop} (b : Bx) (xs : List Bx) (v0 v1 v2 v3 v : Value) (w : World) (ht : Tab w) (hXX : ∀ k, X k → k < w.heap.size) (hs : All2 (SpV X w) [v0, v1, v2, v3] b) (hr : IssX X w v xs) (hb : bvalid b = true) (hx : ∀ (k : Nat) x, xs[k]? = some x → bvalid x = true) :
    Calls Tryd.prog 109 #[.agg #[v0, v1, v2, v3], v] w fun e w' => ∃ z, e = .returned (.tuple #[z, .bool (blessB b xs).isSome]) ∧ (∀ ys, blessB b xs = some ys → IssX X w' z ys) ∧ Below w.heap.size w w' := by
  obtain ⟨a, cap, rfl, hlc, hcm⟩ := hr.form
  unfold maxLen at hcm
  obtain ⟨A0, N0, P0, A1, N1, P1, A2, N2, P2, A3, N3, P3, rfl, rfl, rfl, rfl⟩ := sl4_form (hs.mono (fun _ _ g => g.1))
  obtain ⟨i0, hi, hy0, hy1, hy2⟩ := info_parts infoSd
  generalize hn : xs.length = n at *
  have HN := Lib.hid hn
  have HS := Lib.hid hs
  have HR := Lib.hid hr
  have HX := Lib.hid hx
  have hal : Below w.heap.size w (w.alloc (.cells #[.slice A0 N0 P0, .slice A1 N1 P1, .slice A2 N2 P2, .slice A3 N3 P3] 92)) := (Below.refl _ _).alloc (Nat.le_refl _) _
  obtain ⟨em, hem⟩ : ∃ em, bempty b = em := ⟨_, rfl⟩
  have HE := Lib.hid hem
  clear hn hs hr hx
  go_enter Tryd.func109, Tryd.ntmps109
  go_wp2_with fail
  refine (empty_b (HS.out.mono (fun _ _ g => (g.below hal).1)) hem).mono ?_
  rintro e w1 ⟨rfl, hb1⟩
  have hw1 : Below w.heap.size w w1 := hal.trans (hb1.mono (by simp))
  have hz1 := hb1.size
  simp only [World.size_alloc] at hz1
  have hzw : w.heap.size < (w.alloc (.cells #[.slice A0 N0 P0, .slice A1 N1 P1, .slice A2 N2 P2, .slice A3 N3 P3] 92)).heap.size := by simp
  have q0 := (hb1.cell (p := ⟨w.heap.size, 0, none⟩) hzw).trans (by simp : (w.alloc (.cells #[.slice A0 N0 P0, .slice A1 N1 P1, .slice A2 N2 P2, .slice A3 N3 P3] 92)).cell? ⟨w.heap.size, 0, none⟩ = some (.slice A0 N0 P0))
  have q1 := (hb1.cell (p := ⟨w.heap.size, 1, none⟩) hzw).trans (by simp : (w.alloc (.cells #[.slice A0 N0 P0, .slice A1 N1 P1, .slice A2 N2 P2, .slice A3 N3 P3] 92)).cell? ⟨w.heap.size, 1, none⟩ = some (.slice A1 N1 P1))
  have q2 := (hb1.cell (p := ⟨w.heap.size, 2, none⟩) hzw).trans (by simp : (w.alloc (.cells #[.slice A0 N0 P0, .slice A1 N1 P1, .slice A2 N2 P2, .slice A3 N3 P3] 92)).cell? ⟨w.heap.size, 2, none⟩ = some (.slice A2 N2 P2))
  have q3 := (hb1.cell (p := ⟨w.heap.size, 3, none⟩) hzw).trans (by simp : (w.alloc (.cells #[.slice A0 N0 P0, .slice A1 N1 P1, .slice A2 N2 P2, .slice A3 N3 P3] 92)).cell? ⟨w.heap.size, 3, none⟩ = some (.slice A3 N3 P3))
  clear hb1 hzw hal hem
  cases em
  · have HBS := Lib.hid (show bstart b = [b] by unfold bstart; rw [HE.out]; rfl)
    have hal2 : Below w1.heap.size w1 (w1.alloc (.cells #[.slice A0 N0 P0, .slice A1 N1 P1, .slice A2 N2 P2, .slice A3 N3 P3] 92)) := (Below.refl _ _).alloc (Nat.le_refl _) _
    have HL0 := Lib.hid (show IssX X (w1.alloc (.cells #[.slice A0 N0 P0, .slice A1 N1 P1, .slice A2 N2 P2, .slice A3 N3 P3] 92)) (.slice (some ⟨w1.heap.size, 0, none⟩) 1 1) [b] from by
      refine ⟨[⟨.slice A0 N0 P0, .slice A1 N1 P1, .slice A2 N2 P2, .slice A3 N3 P3⟩], ⟨_, _, rfl, by simp, by simp [maxLen], fun k x hk => ?_⟩, rfl, fun k x y hk hy => ?_⟩
      · match k, hk with
        | 0, hk =>
          cases hk
          refine ⟨_, _, rfl, Nat.zero_le _, by simp, fun j u hj => ?_⟩
          match j, hj with
          | 0, hj => cases hj; simp
          | 1, hj => cases hj; simp
          | 2, hj => cases hj; simp
          | 3, hj => cases hj; simp
          | j + 4, hj => simp at hj
        | k + 1, hk => simp at hk
      · match k, hk, hy with
        | 0, hk, hy =>
          cases hk
          cases hy
          exact HS.out.mono (fun _ _ g => (g.below hw1).below hal2)
        | k + 1, hk, hy => simp at hk)
    go_wp2_with fail
    go_loopw [6, 20] (fun o i wr => ∃ (k : Nat) (L : List Bx), k ≤ n ∧ i = .int .i64 k ∧ Hid (IssX X wr o L) ∧ Hid (rvalid L = true) ∧ Hid (blessB b xs = bless L (xs.drop k)) ∧ Below w.heap.size w wr) (fun _ i _ => n - (intOf i).toNat)
    case atStart => exact ⟨0, [b], by omega, rfl, HL0, Lib.hid (by simp [rvalid, hb]), Lib.hid (by unfold blessB; rw [HBS.out]; rfl), hw1.alloc (by omega) _⟩
    case round =>
      obtain ⟨k, L, hk, rfl, HL, HV, HB, hbr⟩ := hrel
      clear HL0
      have hzr := hbr.size
      by_cases hlt : k < n
      · have i1 : (k : Int) < (n : Int) := by omega
        have i2 : (0 : Int) ≤ (k : Int) := by omega
        obtain ⟨x, hxk⟩ : ∃ x, xs[k]? = some x := ⟨_, List.getElem?_eq_getElem (by rw [HN.out]; exact hlt)⟩
        obtain ⟨bb, o, t0, t1, t2, t3, rfl, hbl, c0, c1, c2, c3, hts⟩ := (HR.out.below hbr).at hxk
        obtain ⟨B0, M0, Q0, B1, M1, Q1, B2, M2, Q2, B3, M3, Q3, rfl, rfl, rfl, rfl⟩ := sl4_form (hts.mono (fun _ _ g => g.1))
        obtain ⟨la, lc, rfl, hl1, hl2⟩ := HL.out.form
        unfold maxLen at hl2
        have HTS := Lib.hid hts
        have HXV := Lib.hid (HX.out k x hxk)
        have HXK := Lib.hid (drop_cons hxk)
        obtain ⟨hL4, hLv⟩ := rvalid_all HV.out
        have HLV := Lib.hid hLv
        obtain ⟨m, hm⟩ : ∃ m, L.length = m := ⟨_, rfl⟩
        have HM := Lib.hid hm
        rw [hm] at hl1 hL4 ⊢
        have halx : Below wr.heap.size wr (wr.alloc (.cells #[.slice B0 M0 Q0, .slice B1 M1 Q1, .slice B2 M2 Q2, .slice B3 M3 Q3] 92)) := (Below.refl _ _).alloc (Nat.le_refl _) _
        have hxb : ∀ j u, [Value.slice B0 M0 Q0, .slice B1 M1 Q1, .slice B2 M2 Q2, .slice B3 M3 Q3][j]? = some u → (wr.alloc (.cells #[.slice B0 M0 Q0, .slice B1 M1 Q1, .slice B2 M2 Q2, .slice B3 M3 Q3] 92)).cell? ⟨wr.heap.size, j, none⟩ = some u := fun j u hj => by
          match j, hj with
          | 0, hj => cases hj; simp
          | 1, hj => cases hj; simp
          | 2, hj => cases hj; simp
          | 3, hj => cases hj; simp
          | j + 4, hj => simp at hj
        have hzI : wr.heap.size < (wr.alloc (.cells #[.slice B0 M0 Q0, .slice B1 M1 Q1, .slice B2 M2 Q2, .slice B3 M3 Q3] 92)).heap.size := by simp
        clear hts hxk hLv hm
        go_wp2_with fail
        obtain ⟨wI, hwI⟩ : ∃ wI, (wr.alloc (.cells #[.slice B0 M0 Q0, .slice B1 M1 Q1, .slice B2 M2 Q2, .slice B3 M3 Q3] 92)) = wI := ⟨_, rfl⟩
        rw [hwI] at halx hxb hzI ⊢
        have hwI2 : Below w.heap.size w wI := hbr.trans (halx.mono hzr)
        have HLI := Lib.hid (show IssX X wI (.slice la m lc) L by have := HL.out.below halx; rwa [HM.out] at this)
        have HXB := Lib.hid (show ∀ w', Below wI.heap.size wI w' → ∀ j u, [Value.slice B0 M0 Q0, .slice B1 M1 Q1, .slice B2 M2 Q2, .slice B3 M3 Q3][j]? = some u → w'.cell? ⟨wr.heap.size, j, none⟩ = some u from fun w' hb j u hj => (hb.cell (p := ⟨wr.heap.size, j, none⟩) hzI).trans (hxb j u hj))
        clear hwI hxb c0 c1 c2 c3
        go_loopw [9, 26] (fun o i wr2 => ∃ j : Nat, j ≤ m ∧ i = .int .i64 j ∧ Hid (NX X wI.heap.size wr2 o (bless1 (L.take j) x)) ∧ Hid (rvalid (bless1 (L.take j) x) = true) ∧ Below wI.heap.size wI wr2) (fun _ i _ => m - (intOf i).toNat)
        case atStart => exact ⟨0, by omega, rfl, Lib.hid ⟨[], World.ownsRow_nil _ _ _ _, All2.nil⟩, Lib.hid rfl, Below.refl _ _⟩
        case round =>
          obtain ⟨j, hj, rfl, HO, HVN, hbI⟩ := hrel
          have hzI2 := hbI.size
          have hwr := hwI2.trans (hbI.mono hwI2.size)
          obtain ⟨oa, oc, rfl⟩ := HO.out.form
          obtain ⟨hN4, hNv⟩ := rvalid_all HVN.out
          by_cases hlj : j < m
          · have i3 : (j : Int) < (m : Int) := by omega
            have i4 : (0 : Int) ≤ (j : Int) := by omega
            obtain ⟨p, hp⟩ : ∃ p, L[j]? = some p := ⟨_, List.getElem?_eq_getElem (by rw [HM.out]; exact hlj)⟩
            obtain ⟨lb, lo2, s0, s1, s2, s3, rfl, hbl2, d0, d1, d2, d3, hps⟩ := HLI.out.at hp
            obtain ⟨C0, K0, E0, C1, K1, E1, C2, K2, E2, C3, K3, E3, rfl, rfl, rfl, rfl⟩ := sl4_form (hps.mono (fun _ _ g => g.1))
            have HPS := Lib.hid hps
            have HPV := Lib.hid (HLV.out p (List.mem_of_getElem? hp))
            have HP := Lib.hid hp
            replace d0 := (hbI.cell (p := ⟨lb, lo2 + j * 4, none⟩) hbl2).trans d0
            replace d1 := (hbI.cell (p := ⟨lb, lo2 + j * 4 + 1, none⟩) hbl2).trans d1
            replace d2 := (hbI.cell (p := ⟨lb, lo2 + j * 4 + 2, none⟩) hbl2).trans d2
            replace d3 := (hbI.cell (p := ⟨lb, lo2 + j * 4 + 3, none⟩) hbl2).trans d3
            have e0 := HXB.out _ hbI 0 _ rfl
            have e1 := HXB.out _ hbI 1 _ rfl
            have e2 := HXB.out _ hbI 2 _ rfl
            have e3 := HXB.out _ hbI 3 _ rfl
            obtain ⟨r, hr⟩ : ∃ r, (bcut p x).all bvalid = r := ⟨_, rfl⟩
            have HRR := Lib.hid hr
            have halp : Below wr.heap.size wr (wr.alloc (.cells #[.slice C0 K0 E0, .slice C1 K1 E1, .slice C2 K2 E2, .slice C3 K3 E3] 92)) := (Below.refl _ _).alloc (Nat.le_refl _) _
            have hown : ∀ z, (Value.slice oa (bless1 (L.take j) x).length oc).ownBlock = some z → wI.heap.size ≤ z ∧ z < wr.heap.size := fun z hz => by
              obtain ⟨rs, g1, g2⟩ := HO.out
              exact World.ownsRow.lt g1 z hz
            have hwIa : Below wI.heap.size wI (wr.alloc (.cells #[.slice C0 K0 E0, .slice C1 K1 E1, .slice C2 K2 E2, .slice C3 K3 E3] 92)) := hbI.trans (halp.mono hzI2)
            have hxz := Nat.lt_of_lt_of_le hzI hzI2
            clear hps hp hr
            go_wp2_with fail
            refine (cut_r (X := fun k => some k = (Value.slice oa (bless1 (L.take j) x).length oc).ownBlock ∨ X k) HRR.out (ht.below (hwr.trans (halp.mono hwr.size))) (fun k hk => hk.elim (fun hk => by have := (hown k hk.symm).2; simp; omega) (fun hk => by have := hXX k hk; have := hwr.size; simp; omega)) (HPS.out.mono (fun _ _ g => SpV.older g hwIa (fun k hk => hk.elim (fun hk => .inl (hown k hk.symm).1) .inr))) (HTS.out.mono (fun _ _ g => SpV.older g (halx.trans (hwIa.mono (by omega))) (fun k hk => hk.elim (fun hk => .inl (by have := (hown k hk.symm).1; omega)) .inr))) HPV.out HXV.out).mono ?_
            rintro e w5 ⟨z, rfl, hz5, hb5⟩
            have hw5 : Below wI.heap.size wI w5 := hwIa.trans (hb5.mono hwIa.size)
            have hbw5 : Below wr.heap.size wr w5 := halp.trans (hb5.mono halp.size)
            have hz5w := hw5.size
            have HO5 := Lib.hid (HO.out.below hbw5)
            have HBW := Lib.hid (hwI2.trans (hw5.mono hwI2.size))
            clear d0 d1 d2 d3 e0 e1 e2 e3 halp hb5 hwIa hbw5
            cases r
            · have HE2 := Lib.hid (show blessB b xs = none by rw [HB.out, HXK.out]; exact bless_bad (bless1_bad HP.out (.inl HRR.out)))
              clear hz5
              go_wp2_with fail
              go_ret2
              exact ⟨_, by rw [HE2.out]; rfl, fun ys h => (by rw [HE2.out] at h; cases h), HBW.out⟩
            · obtain ⟨ws, g1, g2⟩ := hz5 rfl
              have HW1 := Lib.hid g1
              have HW2 := Lib.hid g2
              obtain ⟨za, zc, rfl⟩ : ∃ a c, z = .slice a (bcut p x).length c := by
                rw [← g2.1]
                rcases OwnSl.form g1 with ⟨h, h'⟩ | ⟨g, c, h, _⟩
                · exact ⟨_, _, by rw [h', h]; rfl⟩
                · exact ⟨_, _, h⟩
              clear hz5 g1 g2
              have hc4 := bcut_len p x
              obtain ⟨N, hN⟩ : ∃ N, bless1 (L.take j) x = N := ⟨_, rfl⟩
              have HNN := Lib.hid hN
              rw [hN] at hN4 hNv hown HO5 HO HVN HW2 ⊢
              obtain ⟨K, hK⟩ : ∃ K, bcut p x = K := ⟨_, rfl⟩
              have HKK := Lib.hid hK
              rw [hK] at hc4 HW2 HW1 HRR ⊢
              clear hN hK
              have hcl : (0 : Int) ≤ (K.length : Int) := by omega
              have HCC := Lib.hid (show bless1 (L.take (j + 1)) x = N ++ K by rw [bless1_succ HP.out, HNN.out, HKK.out])
              by_cases hbig : 400 < N.length + K.length
              · have HE2 := Lib.hid (show blessB b xs = none by rw [HB.out, HXK.out]; exact bless_bad (bless1_bad HP.out (.inr (by rw [HNN.out, HKK.out]; exact hbig))))
                have hb2 : (400 : Int) < (N.length : Int) + (K.length : Int) := by omega
                go_wp2_with fail
                go_ret2
                exact ⟨_, by rw [HE2.out]; rfl, fun ys h => (by rw [HE2.out] at h; cases h), HBW.out⟩
              · have hb2 : ¬ (400 : Int) < (N.length : Int) + (K.length : Int) := by omega
                have HVV := Lib.hid (show rvalid (N ++ K) = true by
                  unfold rvalid
                  rw [Bool.and_eq_true]
                  refine ⟨decide_eq_true (by rw [List.length_append]; omega), ?_⟩
                  rw [List.all_append, Bool.and_eq_true]
                  exact ⟨List.all_eq_true.2 hNv, HRR.out⟩)
                clear hNv
                by_cases hk0 : K.length = 0
                · have hK0 : K = [] := List.eq_nil_of_length_eq_zero hk0
                  have hrun := run_append_nothing (P := Tryd.prog) (w := w5) 114 114 92 i0 Tryd.underlying114 hi oa za N.length oc (by
                    obtain ⟨rs, g1, g2⟩ := HO5.out
                    rcases OwnSl.form g1 with ⟨h, _⟩ | ⟨g, c, h, _, _, g5, _⟩
                    · obtain ⟨_, h1, h2⟩ := Value.slice.inj h; omega
                    · obtain ⟨_, h1, h2⟩ := Value.slice.inj h; rw [h1, h2]; exact g5) zc (fun h => by
                    subst h
                    obtain ⟨rs, g1, g2⟩ := HO5.out
                    rcases OwnSl.form g1 with ⟨h, _⟩ | ⟨g, c, h, _⟩
                    · obtain ⟨_, h1, h2⟩ := Value.slice.inj h; exact ⟨h1, h2⟩
                    · cases h)
                  rw [hk0] at hb2 ⊢
                  subst hK0
                  clear hk0
                  go_wp2_with (at_builtin; refine wpList_append_run rfl _ _ 114 rfl rfl rfl hrun ?_)
                  go_wp2
                  go_roundw
                  case rel => exact ⟨j + 1, by omega, by go_num, by rw [HCC.out, List.append_nil]; exact HO5, by rw [HCC.out]; exact HVV, hw5⟩
                  case measure => simp [intOf]; omega
                · obtain ⟨gz, rfl, hgz⟩ : ∃ g, za = some ⟨g, 0, none⟩ ∧ g < w5.heap.size := by
                    rcases OwnSl.form HW1.out with ⟨_, h⟩ | ⟨g, c, h, _, h2, _⟩
                    · have := HW2.out.1; rw [h] at this; simp at this; omega
                    · obtain ⟨h1, _, _⟩ := Value.slice.inj h; exact ⟨g, h1, h2⟩
                  obtain ⟨rs, g1, g2⟩ := HO5.out
                  have HG1 := Lib.hid g1
                  have HG2 := Lib.hid g2
                  have hrl : rs.length = N.length := g2.1
                  have hwl : ws.length = K.length := HW2.out.1
                  have hsl : SlAt 4 R4.enc w5 (.slice (some ⟨gz, 0, none⟩) K.length zc) ws := SlFr.at (OwnSl.fr (sz := 4) (enc := R4.enc) (fun _ => rfl) HW1.out)
                  have hfl := SlAt.flat (sz := 4) (enc := R4.enc) (by omega) (fun _ => rfl) hsl
                  have hone : ∀ u ∈ ws.flatMap R4.enc, u.oneCell' = true := fun u hu => by
                    obtain ⟨r, hr, hu2⟩ := List.mem_flatMap.1 hu
                    obtain ⟨k', hk'⟩ := List.getElem?_of_mem hr
                    obtain ⟨bx, hbx⟩ : ∃ bx, K[k']? = some bx := ⟨_, List.getElem?_eq_getElem (by rw [← hwl]; exact (List.getElem?_eq_some_iff.1 hk').1)⟩
                    have hall := HW2.out.2 k' r bx hk' hbx
                    obtain ⟨F0, G0, H0, F1, G1, H1, F2, G2, H2, F3, G3, H3, h0, h1, h2, h3⟩ := sl4_form (hall.mono (fun _ _ g => g.1))
                    simp only [R4.enc, List.mem_cons, List.not_mem_nil, or_false] at hu2
                    rcases hu2 with rfl | rfl | rfl | rfl
                    · rw [h0]; rfl
                    · rw [h1]; rfl
                    · rw [h2]; rfl
                    · rw [h3]; rfl
                  clear g1 g2 hsl
                  go_wp2_with (at_builtin; refine wpList_append_lies _ rfl _ _ 114 rfl wI.heap.size 92 i0 _ 4 96 Tryd.underlying114 hi hy0 hy1 hy2 rfl (by decide) _ N.length (rs.flatMap R4.enc) rfl (hrl ▸ HG1.out) ⟨gz, 0, none⟩ K.length zc (ws.flatMap R4.enc) rfl ?c1 hfl hone (by omega) ?c3 ?c4 ?c5 _ rfl ?_)
                  case c1 => rw [length_flatMap (sz := 4) (fun _ => rfl), hwl]
                  case c3 => simp only [maxLen]; omega
                  case c4 => omega
                  case c5 => omega
                  intro g8 cap8 w8 hown8 hgrow8 hlies8 hlt8
                  have hB8 : Below wI.heap.size wI w8 := hw5.grown hgrow8 (by omega) (fun z hz => by have := hown z hz; omega)
                  have HF8 := Lib.hid (show NX X wI.heap.size w8 (.slice (some ⟨g8, 0, none⟩) (N.length + K.length) cap8) (bless1 (L.take (j + 1)) x) by
                    rw [HCC.out]
                    refine NX.push (H := w5.heap.size) (HW2.out.mono (fun _ _ g => (All2.mono g (fun _ _ q => q.sub (fun _ h => .inr h)) : All2 _ _ _))) ⟨hgrow8.size, fun k k1 k2 => hgrow8.block k k1 k2⟩ (fun z hz => by cases hz; exact hlies8) (Nat.le_refl _) HG2.out ?_
                    unfold OwnSl
                    rw [List.length_append, List.flatMap_append, hrl, hwl]
                    exact hown8)
                  have hNK : N.length + K.length = (bless1 (L.take (j + 1)) x).length := by rw [HCC.out, List.length_append]
                  clear hown8 hgrow8 hlies8 hlt8 hfl hone
                  go_wp2
                  go_roundw
                  case rel => exact ⟨j + 1, by omega, by go_num, HF8, by rw [HCC.out]; exact HVV, hB8⟩
                  case measure => simp [intOf]; omega
          · have hjm : j = m := by omega
            have HCC := Lib.hid (show bless1 (L.take j) x = bless1 L x by rw [List.take_of_length_le (by rw [HM.out]; omega)])
            obtain ⟨N, hN⟩ : ∃ N, bless1 (L.take j) x = N := ⟨_, rfl⟩
            rw [hN] at hN4 HO HVN HCC ⊢
            have HB2 := Lib.hid (show blessB b xs = bless N (xs.drop (k + 1)) by rw [HB.out, HXK.out, bless_ok (by rw [← HCC.out]; exact HVN.out), HCC.out])
            have HI := Lib.hid HO.out.issx
            clear hN hNv
            by_cases hN0 : N.length = 0
            · have hN00 : N = [] := List.eq_nil_of_length_eq_zero hN0
              subst hN00
              have HE2 := Lib.hid (show blessB b xs = some [] by rw [HB2.out]; exact bless_nil _)
              simp only [List.length_nil] at HI ⊢
              go_wp2
              go_ret2
              exact ⟨_, by rw [HE2.out]; rfl, fun ys h => (by rw [HE2.out] at h; cases h; exact HI.out), hwr⟩
            · have hne : ((N.length : Int) == 0) = false := by simpa using hN0
              clear hN0
              go_wp2
              go_roundw
              case rel => exact ⟨k + 1, N, by omega, by go_num, HI, HVN, HB2, hwr⟩
              case measure => simp [intOf]; omega
      · have HE2 := Lib.hid (show blessB b xs = some L by rw [HB.out, List.drop_of_length_le (by rw [HN.out]; omega)]; rfl)
        go_wp2
        go_ret2
        exact ⟨_, by rw [HE2.out]; rfl, fun ys h => (by rw [HE2.out] at h; cases h; exact HL.out), hbr⟩
  · have HBS := Lib.hid (show blessB b xs = some [] by unfold blessB bstart; rw [HE.out]; exact bless_nil xs)
    go_wp2
    go_ret2
    refine ⟨_, by rw [HBS.out]; rfl, fun ys h => ?_, hw1⟩
    rw [HBS.out] at h
    cases h
    exact ⟨[], ⟨none, 0, rfl, by simp, by simp, fun k x h => by simp at h⟩, All2.nil⟩
theorem less_any {lo lo' : Nat} (b : Bx) (xs : List Bx) (v0 v1 v2 v3 v : Value) (w : World) (ht : Tab w) (hs : All2 (Sps lo w) [v0, v1, v2, v3] b) (hr : Iss lo' w v xs) (hb : bvalid b = true) (hx : ∀ (k : Nat) x, xs[k]? = some x → bvalid x = true) :
    Calls Tryd.prog 109 #[.agg #[v0, v1, v2, v3], v] w fun e w' => ∃ z, e = .returned (.tuple #[z, .bool (blessB b xs).isSome]) ∧ (∀ ys, blessB b xs = some ys → Iss 0 w' z ys) ∧ Below w.heap.size w w' := by
  refine (lessX_any (X := fun _ => False) b xs v0 v1 v2 v3 v w ht (fun _ h => h.elim) (hs.mono (fun _ _ g => SpV.no g)) hr.x hb hx).mono ?_
  rintro e w' ⟨z, rfl, h, hb⟩
  exact ⟨z, rfl, fun ys hy => (h ys hy).iss, hb⟩
end Go.Proofs.YtnnmkdaioajkkaaDoor
