/- A ruleset without decisions is made: its chains in memory. -/
import Derived.Test.YtfcbbahlhjdefaaDoorUSn
import Derived.Test.YtfcbbahlhjdefaaDoorUQe
import Derived.Test.YtfcbbahlhjdefaaDoorRdRs
import Derived.Test.YtfcbbahlhjdefaaDoorRdRc
/- The judgement, plainly: what the law of unfolding asks, and the law without decisions. -/
namespace Go.Proofs.YtfcbbahlhjdefaaDoor
open Go.RowKit
/-- The judgement; the calls are less than f deep. -/
def jd (cs : List (List Ru)) (f : Nat) (acc : Bool) (p : Pk) : Bool := rsvalid cs && p.ok && (jwalk cs p f 0).getD acc
theorem ufRes_some {cs : List (List Ru)} {f : Nat} {o : List Ft} (h : ufRes cs f = some o) : rsvalid cs = true ∧ ∃ i, ufWalk cs f 0 [ball] [] = some (i, o) := by
  unfold ufRes at h
  split at h
  · rename_i hv
    refine ⟨hv, ?_⟩
    cases hq : ufWalk cs f 0 [ball] [] with
    | none => rw [hq] at h; cases h
    | some q => rw [hq] at h; cases h; exact ⟨q.1, rfl⟩
  · cases h
/-! Without decisions. -/
theorem quiet1_ok (r : Ru) : (quiet1 r).ok = r.ok := by
  unfold quiet1
  split
  · rename_i h
    unfold Ru.ok
    rcases h with h | h <;> rw [h] <;> rfl
  · rfl
theorem quiet1_call (r : Ru) : ((quiet1 r).act == 3) = (r.act == 3) ∧ (quiet1 r).ch = r.ch := by
  unfold quiet1
  split
  · rename_i h
    refine ⟨?_, rfl⟩
    rcases h with h | h <;> rw [h] <;> rfl
  · exact ⟨rfl, rfl⟩
theorem rusvalid_quiet (l : List Ru) : rusvalid (quietL l) = rusvalid l := by
  unfold rusvalid quietL
  rw [List.length_map, List.all_map]
  congr 2
  funext r
  exact quiet1_ok r
theorem calls_quiet (l : List Ru) : calls (quietL l) = calls l := by
  unfold calls quietL
  congr 1
  funext c
  rw [List.any_map]
  congr 1
  funext r
  simp only [Function.comp]
  rw [(quiet1_call r).1, (quiet1_call r).2]
theorem callsAt_quiet (cs : List (List Ru)) (c : Nat) : callsAt (quiet cs) c = callsAt cs c := by
  unfold callsAt quiet
  rw [List.getD_eq_getElem?_getD, List.getD_eq_getElem?_getD, List.getElem?_map]
  cases cs[c]? with
  | none => rfl
  | some l => exact calls_quiet l
theorem visit_quiet (cs : List (List Ru)) : ∀ f, visit (quiet cs) f = visit cs f
  | 0 => rfl
  | f + 1 => by
    funext c col
    unfold visit
    rw [visit_quiet cs f, callsAt_quiet, show (quiet cs).length = cs.length by unfold quiet; rw [List.length_map]]
theorem acycl_quiet (cs : List (List Ru)) (f : Nat) : ∀ l col, acycl (quiet cs) f l col = acycl cs f l col
  | [], _ => rfl
  | c :: l, col => by
    unfold acycl
    rw [visit_quiet, acycl_quiet cs f l]
theorem rsvalid_quiet (cs : List (List Ru)) : rsvalid (quiet cs) = rsvalid cs := by
  unfold rsvalid
  rw [acycl_quiet]
  have h1 : (quiet cs).length = cs.length := by unfold quiet; rw [List.length_map]
  have h2 : (quiet cs).all rusvalid = cs.all rusvalid := by
    unfold quiet
    rw [List.all_map]
    congr 1
    funext l
    exact rusvalid_quiet l
  have h3 : callsOk (quiet cs) = callsOk cs := by
    unfold callsOk quiet
    rw [List.all_map, List.length_map]
    congr 1
    funext l
    simp only [Function.comp]
    rw [calls_quiet]
  rw [h1, h2, h3]
/-- Nothing comes out. -/
theorem ufRes_quiet (cs : List (List Ru)) (f : Nat) : (ufRes (quiet cs) f).getD [] = [] := by
  cases h : ufRes (quiet cs) f with
  | none => rfl
  | some o =>
    obtain ⟨-, i, hw⟩ := ufRes_some h
    exact ufWalk_quiet f 0 _ _ _ _ hw
theorem jd_quiet (cs : List (List Ru)) (f : Nat) (acc : Bool) (p : Pk) : jd (quiet cs) f acc p = (rsvalid cs && p.ok && acc) := by
  unfold jd
  rw [rsvalid_quiet, jwalk_quiet]; rfl
end Go.Proofs.YtfcbbahlhjdefaaDoor
namespace Go.Proofs.YtfcbbahlhjdefaaDoor
open Go.RowKit
/-- A chain under copy: its tests lie below H. -/
def Qc (H lo : Nat) (w : World) (v : Value) (rs : List Ru) : Prop := ∃ qs, OwnSl lo 34 3 RR.enc w v qs ∧ All2 (fun (q : RR) (r : Ru) => SlV (fun k => H ≤ k) 4 Te.enc w q.s r.ts ∧ q.act = r.act ∧ q.ch = r.ch) qs rs
theorem Qc.form {H lo : Nat} {w : World} {v : Value} {rs : List Ru} (h : Qc H lo w v rs) : ∃ a c, v = .slice a rs.length c := by
  obtain ⟨qs, h1, h2⟩ := h
  rw [← h2.1]
  rcases OwnSl.form h1 with ⟨h, h'⟩ | ⟨g, c, h, _⟩
  · exact ⟨_, _, by rw [h', h]; rfl⟩
  · exact ⟨_, _, h⟩
/-- The copy: rules behind an empty literal. -/
theorem Qc.copy {lo : Nat} {w0 w : World} {src : Value} {rs : List Ru} (ty : TypeId) (hs : Rus lo w0 src rs) (hb0 : Below w0.heap.size w0 w) (hl : rs.length ≤ 100) :
    ∃ v' w', (Builtin.append_ #[31, 31] ty #[.slice (some ⟨w.heap.size, 0, none⟩) 0 0, src]).run Tryd.prog (w.alloc (.cells #[] 34)) = .ok v' w' ∧ Qc w0.heap.size w.heap.size w' v' rs ∧ Below w.heap.size w w' := by
  obtain ⟨i0, hi, hy0, hy1, hy2⟩ := info_parts infoRu
  obtain ⟨qs, h1, h2⟩ := hs
  have hal : Below w.heap.size w (w.alloc (.cells #[] 34)) := (Below.refl _ _).alloc (Nat.le_refl _) _
  have hq : All2 (fun (q : RR) (r : Ru) => SlV (fun k => w0.heap.size ≤ k) 4 Te.enc w q.s r.ts ∧ q.act = r.act ∧ q.ch = r.ch) qs rs := h2.mono (fun _ _ g => ⟨SlV.old g.1 hb0 (fun k hk => hk), g.2⟩)
  have e1 := h2.1
  have hone : ∀ u ∈ qs.flatMap RR.enc, u.oneCell' = true := fun u hu => by
    obtain ⟨q, hq1, hu⟩ := List.mem_flatMap.1 hu
    obtain ⟨k, hk⟩ := List.getElem?_of_mem hq1
    obtain ⟨r, hr⟩ : ∃ r, rs[k]? = some r := ⟨_, List.getElem?_eq_getElem (by rw [← e1]; exact (List.getElem?_eq_some_iff.1 hk).1)⟩
    obtain ⟨a, c, hsf, -, -⟩ := (h2.2 k q r hk hr).1.form
    simp only [RR.enc, List.mem_cons, List.not_mem_nil, or_false] at hu
    rcases hu with rfl | rfl | rfl
    · rw [hsf]; rfl
    · rfl
    · rfl
  obtain ⟨v', w', hrun, hown, hgr, hat⟩ := own_append_all (sz := 3) (enc := RR.enc) (by omega) (fun _ => rfl) (P := Tryd.prog) 31 ty 34 i0 _ 40 Tryd.underlying31 hi hy0 hy1 hy2 rfl hone (litOwn 34 3 RR.enc (w := w) (Nat.le_refl _)) (SlFr.at ((SlFr.below h1 hb0).below hal)) (by simp; omega) (by simp only [maxLen, List.length_nil]; omega) (by simp)
  have hb : Below w.heap.size w w' := hal.grown hgr (by simp) (fun z hz => by have h9 : z = w.heap.size := (by simpa [Value.ownBlock] using hz.symm); omega)
  refine ⟨v', w', hrun, ⟨qs, by simpa using hown, hq.mono (fun _ _ g => ⟨g.1.keep hb.size (fun k k1 k2 => ⟨hb.block k k1, k2⟩), g.2⟩)⟩, hb⟩
/-- The rules before k without decisions. -/
def qto (rs : List Ru) (k : Nat) : List Ru := (rs.take k).map quiet1 ++ rs.drop k
theorem qto_at {rs : List Ru} {k : Nat} {r : Ru} (h : rs[k]? = some r) : (qto rs k)[k]? = some r ∧ qto rs (k + 1) = (qto rs k).set k (quiet1 r) := by
  have hl := (List.getElem?_eq_some_iff.1 h).1
  have hk : ((rs.take k).map quiet1).length = k := by rw [List.length_map, List.length_take]; omega
  have hd : rs.drop k = r :: rs.drop (k + 1) := by rw [List.drop_eq_getElem_cons hl, (List.getElem?_eq_some_iff.1 h).2]
  unfold qto
  rw [hd]
  refine ⟨by rw [List.getElem?_append_right (by omega), hk, Nat.sub_self]; rfl, ?_⟩
  rw [List.set_append_right _ _ (by omega), hk, Nat.sub_self, List.set_cons_zero, List.take_add_one, h, Option.toList_some, List.map_append, List.append_assoc]
  rfl
theorem qto_zero (rs : List Ru) : qto rs 0 = rs := by unfold qto; simp
theorem qto_all {rs : List Ru} {k : Nat} (h : rs.length ≤ k) : qto rs k = quietL rs := by unfold qto quietL; rw [List.take_of_length_le h, List.drop_eq_nil_of_le h, List.append_nil]
theorem quiet1_no {r : Ru} (h1 : ¬ r.act = 1) (h2 : ¬ r.act = 2) : quiet1 r = r := by unfold quiet1; rw [if_neg (by rintro (h | h) <;> contradiction)]
/-- The action of a rule. -/
theorem Qc.act {H lo : Nat} {w : World} {a : Option Addr} {n c : Nat} {rs : List Ru} (h : Qc H lo w (.slice a n c) rs) {k : Nat} {r : Ru} (hk : rs[k]? = some r) :
    ∃ g, a = some ⟨g, 0, none⟩ ∧ lo ≤ g ∧ g < w.heap.size ∧ w.cell? ⟨g, k * 3 + 1, none⟩ = some (.int .i64 r.act) ∧ w.frozen? ⟨g, k * 3 + 1, none⟩ = false := by
  obtain ⟨qs, h1, h2⟩ := h
  obtain ⟨q, hq, h3⟩ := h2.left hk
  rcases OwnSl.form h1 with ⟨_, h'⟩ | ⟨g, c', h', hg, hx, _, _, hf⟩
  · subst h'; simp at hq
  · obtain ⟨e1, e2, e3⟩ := Value.slice.inj h'
    subst e1
    subst e3
    refine ⟨g, rfl, hg, hx, ?_, hf _⟩
    rw [← h3.2.1]
    exact OwnSl.cell (sz := 3) (enc := RR.enc) (fun _ => rfl) h1 hq 1 _ rfl
theorem Qc.set {H lo : Nat} {w : World} {g n c : Nat} {rs : List Ru} (h : Qc H lo w (.slice (some ⟨g, 0, none⟩) n c) rs) (hH : H ≤ lo) {k : Nat} {r : Ru} (hk : rs[k]? = some r) (h12 : r.act = 1 ∨ r.act = 2) :
    Qc H lo (w.setCell ⟨g, k * 3 + 1, none⟩ (.int .i64 5)) (.slice (some ⟨g, 0, none⟩) n c) (rs.set k (quiet1 r)) := by
  obtain ⟨qs, h1, h2⟩ := h
  obtain ⟨q, hq, h3⟩ := h2.left hk
  have hlt := World.ownsRow.lt h1 g rfl
  have hen : n = qs.length := by
    rcases OwnSl.form h1 with ⟨h', _⟩ | ⟨g', c', h', _⟩
    · cases h'
    · exact (Value.slice.inj h').2.1
  have hst := (OwnSl.storeAt (sz := 3) (enc := RR.enc) (fun _ => rfl) hen h1 hq (y' := ⟨q.s, 5, q.ch⟩) (j := 1) (c := .int .i64 5) (by omega) rfl).1
  have hqr : quiet1 r = ⟨r.ts, 5, r.ch⟩ := by unfold quiet1; rw [if_pos h12]
  refine ⟨qs.set k ⟨q.s, 5, q.ch⟩, hst, ?_⟩
  have hb : Below lo w (w.setCell ⟨g, k * 3 + 1, none⟩ (.int .i64 5)) := Below.setCell (p := ⟨g, k * 3 + 1, none⟩) (Below.refl _ _) hlt.1 _
  have hkeep : ∀ (s : Value) (ts : List Te), SlV (fun k => H ≤ k) 4 Te.enc w s ts → SlV (fun k => H ≤ k) 4 Te.enc (w.setCell ⟨g, k * 3 + 1, none⟩ (.int .i64 5)) s ts := fun s ts hs => hs.keep hb.size (fun j j1 j2 => ⟨hb.block j (by omega), j2⟩)
  exact (h2.mono (fun _ _ g => ⟨hkeep _ _ g.1, g.2⟩)).set ⟨by rw [hqr]; exact hkeep _ _ h3.1, by rw [hqr], by rw [hqr]; exact h3.2.2⟩ k
/-- The ruleset under way: X is the variable's block. -/
structure Qx (H X : Nat) (acc : Bool) (w : World) (cv : Value) (cs : List (List Ru)) : Prop where
  h : H ≤ X
  lt : X < w.heap.size
  c0 : w.cell? ⟨X, 0, none⟩ = some cv
  c1 : w.cell? ⟨X, 1, none⟩ = some (.bool acc)
  fz : ∀ j, w.frozen? ⟨X, j, none⟩ = false
  ch : ∃ vs, OwnSl H 31 1 enc1 w cv vs ∧ cv.ownBlock ≠ some X ∧ All2 (RuV (fun k => k = X ∨ some k = cv.ownBlock) w) vs cs
theorem Qx.below {H X : Nat} {acc : Bool} {w w' : World} {cv : Value} {cs : List (List Ru)} (h : Qx H X acc w cv cs) (hb : Below w.heap.size w w') : Qx H X acc w' cv cs := by
  obtain ⟨vs, h1, h2, h3⟩ := h.ch
  exact ⟨h.h, Nat.lt_of_lt_of_le h.lt hb.size, (hb.cell (p := ⟨X, 0, none⟩) h.lt).trans h.c0, (hb.cell (p := ⟨X, 1, none⟩) h.lt).trans h.c1, fun j => (hb.frozen (p := ⟨X, j, none⟩) h.lt).trans (h.fz j), vs, h1.kept hb, h2, h3.mono (fun _ _ g => g.keep hb.size (fun k k1 k2 => ⟨hb.block k k1, k2⟩))⟩
theorem Qx.form {H X : Nat} {acc : Bool} {w : World} {cv : Value} {cs : List (List Ru)} (h : Qx H X acc w cv cs) : ∃ a c, cv = .slice a cs.length c := by
  obtain ⟨vs, h1, h2, h3⟩ := h.ch
  rw [← h3.1]
  rcases OwnSl.form h1 with ⟨h, h'⟩ | ⟨g, c, h, _⟩
  · exact ⟨_, _, by rw [h', h]; rfl⟩
  · exact ⟨_, _, h⟩
theorem Qx.rss {H X : Nat} {acc : Bool} {w : World} {cv : Value} {cs : List (List Ru)} (h : Qx H X acc w cv cs) : Rss 0 w cv cs := by
  obtain ⟨vs, h1, h2, h3⟩ := h.ch
  exact ⟨vs, SlFr.mono (OwnSl.fr (sz := 1) (enc := enc1) (fun _ => rfl) h1) (Nat.zero_le _), h3.mono (fun _ _ g => g.rus)⟩
/-- A chain that is done, for the list of chains. -/
theorem Qc.v {H lo : Nat} {w : World} {v : Value} {rs : List Ru} (h : Qc H lo w v rs) {P : Nat → Prop} (hP : ∀ k, P k → H ≤ k ∧ k < lo) : RuV P w v rs := by
  obtain ⟨qs, h1, h2⟩ := h
  refine ⟨qs, ⟨SlFr.of (OwnSl.at (sz := 3) (enc := RR.enc) (fun _ => rfl) h1), fun g n c e hne hp => ?_⟩, h2.mono (fun _ _ g => ⟨g.1.sub (fun k hk => (hP k hk).1), g.2⟩)⟩
  have h9 := World.ownsRow.lt h1
  rcases OwnSl.form h1 with ⟨h', h''⟩ | ⟨g', c', h', hg, _⟩
  · exact hne h''
  · rw [e] at h'
    obtain ⟨e1, -, -⟩ := Value.slice.inj h'
    cases e1
    have := (hP _ hp).2
    simp only at this
    omega
theorem Qx.push {H X : Nat} {acc : Bool} {w : World} {cv u : Value} {cs : List (List Ru)} {rs : List Ru} (h : Qx H X acc w cv cs) (hH : H ≤ w.heap.size) (hu : RuV (fun k => k = X ∨ some k = cv.ownBlock) w u rs) (ty : TypeId) (hl : cs.length ≤ 1000) :
    ∃ v' w', (Builtin.append_ #[23, 23] ty #[cv, .slice (some ⟨w.heap.size, 0, none⟩) 1 1]).run Tryd.prog (w.alloc (.cells #[u] 31)) = .ok v' w' ∧ w'.cell? ⟨X, 0, none⟩ = some cv ∧ w'.frozen? ⟨X, 0, none⟩ = false ∧ (∃ a n c, v' = .slice a n c) ∧ Qx H X acc (w'.setCell ⟨X, 0, none⟩ v') v' (cs ++ [rs]) ∧ Below H w (w'.setCell ⟨X, 0, none⟩ v') := by
  obtain ⟨vs, h1, h2, h3⟩ := h.ch
  have hX := h.h
  have hlt := h.lt
  obtain ⟨i0, hi, hy0, hy1, hy2⟩ := info_parts infoRs1
  obtain ⟨V, hV⟩ : ∃ V, w.alloc (.cells #[u] 31) = V := ⟨_, rfl⟩
  have hal : Below w.heap.size w V := by rw [← hV]; exact (Below.refl _ _).alloc (Nat.le_refl _) _
  have hzV : V.heap.size = w.heap.size + 1 := by rw [← hV]; simp
  have hx : SlAt 1 enc1 V (.slice (some ⟨w.heap.size, 0, none⟩) 1 1) [u] := slOne (by rw [← hV]; simp) (by omega)
  rw [hV]
  obtain ⟨ua, uc, huf, -, -⟩ := hu.rus.form
  have hone : ∀ x ∈ [u].flatMap enc1, x.oneCell' = true := fun x hx => by
    simp only [List.flatMap_cons, List.flatMap_nil, List.append_nil, enc1, List.mem_cons, List.not_mem_nil, or_false] at hx
    rw [hx, huf]; rfl
  have e1 := h3.1
  obtain ⟨v', w', hrun, hown, hgr, hat⟩ := own_append_all (sz := 1) (enc := enc1) (by omega) (fun _ => rfl) (P := Tryd.prog) 23 ty 31 i0 _ 24 Tryd.underlying23 hi hy0 hy1 hy2 rfl hone (OwnSl.kept h1 hal) hx (by simp; omega) (by simp only [maxLen, List.length_cons, List.length_nil]; omega) (by omega)
  have hz := hgr.size
  have hXo : some X ≠ cv.ownBlock := fun e => h2 e.symm
  have hat2 : ∀ z, v'.ownBlock = some z → cv.ownBlock = some z ∨ w.heap.size ≤ z := fun z hz2 => (hat z hz2).imp id (fun e => by omega)
  have hX' : v'.ownBlock ≠ some X := fun e => by
    rcases hat2 X e with h | h
    · exact h2 h
    · omega
  have hk : ∀ k, k ≠ X → (w'.setCell ⟨X, 0, none⟩ v').heap[k]? = w'.heap[k]? := fun k k1 => Below.heap_setCell _ _ _ _ k1
  have kX := (hgr.block X (by omega) hXo).trans (hal.block X hlt)
  have cX : w'.cell? ⟨X, 0, none⟩ = some cv := (World.cell?_of_block (a := ⟨X, 0, none⟩) kX).trans h.c0
  have cX1 : w'.cell? ⟨X, 1, none⟩ = some (.bool acc) := (World.cell?_of_block (a := ⟨X, 1, none⟩) kX).trans h.c1
  have fX : ∀ j, w'.frozen? ⟨X, j, none⟩ = false := fun j => (World.frozen?_of_block (a := ⟨X, j, none⟩) kX).trans (h.fz j)
  have key : ∀ k, k < w.heap.size → ¬ (k = X ∨ some k = cv.ownBlock) → (w'.setCell ⟨X, 0, none⟩ v').heap[k]? = w.heap[k]? ∧ ¬ (k = X ∨ some k = v'.ownBlock) := fun k k1 k2 => ⟨((hk k (fun e => k2 (.inl e))).trans (hgr.block k (by omega) (fun e => k2 (.inr e)))).trans (hal.block k k1), fun e => by
    rcases e with e | e
    · exact k2 (.inl e)
    · rcases hat2 k e.symm with h | h
      · exact k2 (.inr h.symm)
      · omega⟩
  refine ⟨v', w', hrun, cX, fX 0, ?_, ⟨hX, by simp; omega, World.cell?_setCell_same' _ _ _ (by rw [cX]; rfl), by rw [World.cell?_setCell_other _ _ _ _ (by simp)]; exact cX1, fun j => by rw [World.frozen?_setCell]; exact fX j, vs ++ [u], OwnSl.keepB hown (fun z z1 _ _ => hk z (fun e => hX' (by rw [z1, e]))), hX', (h3.mono (fun _ _ g => g.keep (by simp; omega) key)).snoc (hu.keep (by simp; omega) key)⟩, ?_⟩
  · rcases OwnSl.form hown with ⟨h, _⟩ | ⟨g, c, h, _⟩
    · exact ⟨_, _, _, h⟩
    · exact ⟨_, _, _, h⟩
  · exact (hal.mono hH).trans (Below.setCell (p := ⟨X, 0, none⟩) ((Below.refl _ _).grown hgr (by omega) (fun z hz => (World.ownsRow.lt h1 z hz).1)) hX _)
end Go.Proofs.YtfcbbahlhjdefaaDoor
