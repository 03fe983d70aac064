/- The walk of a packet through a ruleset. -/
import Derived.Test.YtfcbbahlhjdefaaDoorJwV
import Derived.Handy
import Derived.Deep.LoopGhost
import Derived.Deep.DeepCutAuto
namespace Go.Proofs.YtfcbbahlhjdefaaDoor
open Go.RowKit
theorem Wk.start {w : World} (o1 o2 : Obj) (W : World) (hW : ((((w.alloc o1).alloc o2).alloc (.cells #[.int .i64 0, .int .i64 0] 97)).alloc (.cells #[.slice (some ⟨w.heap.size + 1 + 1, 0, none⟩) 1 1, .slice none 0 0, .int .i64 5] 61)) = W) :
    Wk (w.heap.size + 1 + 1) (w.heap.size + 1 + 1 + 1) W (.slice (some ⟨w.heap.size + 1 + 1, 0, none⟩) 1 1) (.slice none 0 0) [(0, 0)] [] 5 ∧ Below w.heap.size w W := by
  obtain ⟨V, hV⟩ : ∃ V, (w.alloc o1).alloc o2 = V := ⟨_, rfl⟩
  have hz : V.heap.size = w.heap.size + 1 + 1 := by rw [← hV]; simp
  have hb : Below w.heap.size w V := by rw [← hV]; exact ((Below.refl _ _).alloc (Nat.le_refl _) _).alloc (by simp) _
  rw [hV, ← hz] at hW
  rw [← hz]
  have HA := alloc2_cells V #[.int .i64 0, .int .i64 0] #[.slice (some ⟨V.heap.size, 0, none⟩) 1 1, .slice none 0 0, .int .i64 5] 97 61
  rw [hW] at HA
  have hh : W.heap[V.heap.size]? = some (.cells #[.int .i64 0, .int .i64 0] 97 (0, 0)) := by
    rw [← hW]
    have h1 : Below (V.heap.size + 1) (V.alloc (.cells #[.int .i64 0, .int .i64 0] 97)) ((V.alloc (.cells #[.int .i64 0, .int .i64 0] 97)).alloc (.cells #[.slice (some ⟨V.heap.size, 0, none⟩) 1 1, .slice none 0 0, .int .i64 5] 61)) := (Below.refl _ _).alloc (by simp) _
    exact (h1.block _ (by omega)).trans (heap_alloc_new V _)
  have hal : Below V.heap.size V W := by rw [← hW]; (repeat' (first | with_reducible exact Below.refl _ _ | with_reducible assumption | with_reducible refine Below.setCell ?_ ?_ _ | with_reducible refine Below.alloc ?_ ?_ _ | with_reducible refine Below.drew ?_ | with_reducible refine belDrewN ?_ _ | with_reducible refine Below.trans ?_ (Below.mono (by assumption) ?_) | omega | (simp; omega) | (simp; done)))
  refine ⟨⟨by omega, by rw [← hW]; simp, (HA.2 0).1, (HA.2 1).1, (HA.2 2).1, fun j => (HA.2 j).2, ⟨by simp, .inr ⟨V.heap.size, 1, #[.int .i64 0, .int .i64 0], rfl, by omega, hh, Nat.le_refl _, by simp [maxLen], rfl, rfl⟩⟩, by simp [Value.ownBlock], OwnSl.nil _ _ _ _ _, by simp [Value.ownBlock], fun z _ h => by cases h⟩, hb.trans (hal.mono (by omega))⟩
/-- The top place's next rule. -/
theorem Wk.bump {S U : Nat} {w : World} {sv vv : Value} {c n : Nat} {st vs : List (Nat × Nat)} {dec : Int} (h : Wk S U w sv vv ((c, n) :: st) vs dec) :
    ∃ g cap, sv = .slice (some ⟨g, 0, none⟩) (st.length + 1) cap ∧ st.length + 1 ≤ cap ∧ cap ≤ maxLen ∧ g < w.heap.size ∧ S ≤ g ∧ g ≠ U ∧ vv.ownBlock ≠ some g ∧ w.cell? ⟨g, st.length * 2, none⟩ = some (.int .i64 (c : Int)) ∧ w.cell? ⟨g, st.length * 2 + 1, none⟩ = some (.int .i64 (n : Int)) ∧ w.frozen? ⟨g, st.length * 2 + 1, none⟩ = false ∧
      Wk S U (w.setCell ⟨g, st.length * 2 + 1, none⟩ (.int .i64 ((n : Int) + 1))) sv vv ((c, n + 1) :: st) vs dec ∧ Below S w (w.setCell ⟨g, st.length * 2 + 1, none⟩ (.int .i64 ((n : Int) + 1))) := by
  have h1 := h.st
  rcases OwnSl.form h1 with ⟨_, h'⟩ | ⟨g, cap, h', hg, hx, hc, hm, hf⟩
  · simp at h'
  · subst h'
    have hl : ((c, n) :: st).reverse.length = st.length + 1 := by simp
    have hgU : g ≠ U := fun e => h.su (by rw [← e]; rfl)
    have hk : ((c, n) :: st).reverse[st.length]? = some (c, n) := by
      rw [List.reverse_cons, List.getElem?_append_right (by simp)]; simp
    have hcl := OwnSl.cell (sz := 2) (enc := encP) (fun _ => rfl) h1 hk
    have h2 := (OwnSl.storeAt (sz := 2) (enc := encP) (fun _ => rfl) rfl h1 hk (y' := (c, n + 1)) (j := 1) (c := .int .i64 ((n : Int) + 1)) (by omega) rfl).1
    have hset : ((c, n) :: st).reverse.set st.length (c, n + 1) = ((c, n + 1) :: st).reverse := by
      rw [List.reverse_cons, List.reverse_cons, List.set_append_right _ _ (by simp)]; simp
    rw [hset] at h2
    rw [hl] at hc h2 ⊢
    have hkk : ∀ k, k ≠ g → (w.setCell ⟨g, st.length * 2 + 1, none⟩ (.int .i64 ((n : Int) + 1))).heap[k]? = w.heap[k]? := fun k hk => Below.heap_setCell _ _ _ _ hk
    have kU := hkk U (Ne.symm hgU)
    refine ⟨g, cap, rfl, hc, hm, hx, hg, hgU, fun e => h.sw g rfl e, hcl 0 _ rfl, hcl 1 _ rfl, hf _, ⟨h.s, by simpa using h.lt, (World.cell?_of_block (a := ⟨U, 0, none⟩) kU).trans (by rw [h.c0, hl]), (World.cell?_of_block (a := ⟨U, 1, none⟩) kU).trans h.c1, (World.cell?_of_block (a := ⟨U, 2, none⟩) kU).trans h.c2, fun j => by rw [World.frozen?_setCell]; exact h.fz j, h2, by rw [← hl]; exact h.su, OwnSl.keepB h.vs (fun z z1 _ _ => hkk z (fun e => h.sw g rfl (by rw [z1, e]))), h.vu, fun z z1 z2 => h.sw z (by rw [hl]; exact z1) z2⟩, Below.setCell (p := ⟨g, st.length * 2 + 1, none⟩) (Below.refl _ _) hg _⟩
/-- The walk under way: what is still to be said by the places, and in how many turns. -/
def WtI (S U : Nat) (cs : List (List Ru)) (p : Pk) (F : Nat) (J : Option Bool) (w0 : World) (k : Nat) (w : World) : Prop :=
  ∃ sv vv st vs dec, Wk S U w sv vv st vs dec ∧ StOk cs F st ∧ ((dec = 5 ∧ jval cs p F st = J) ∨ (dec = 1 ∧ J = some true) ∨ (dec = 2 ∧ J = some false)) ∧ vs.length ≤ 200 ∧ jtime cs F st = k ∧ Below S w0 w
section
variable {cs : List (List Ru)} {p : Pk} {F c n : Nat} {st : List (Nat × Nat)} {J : Option Bool} {r : Ru}
theorem turn_end (hv : ∀ c r, r ∈ cs.getD c [] → r.ok = true) (hci : CallsIn cs) (hok : StOk cs F ((c, n) :: st)) (hJ : jval cs p F ((c, n) :: st) = J) (h : (cs.getD c [])[n]? = none) :
    StOk cs F st ∧ jval cs p F st = J ∧ jtime cs F st < jtime cs F ((c, n) :: st) := by
  have e : jturn cs p c n st = (st, none) := by unfold jturn; rw [h]
  have h1 := jturn_val (p := p) (F := F) (n := n) (st := st) hv (hok.1.mono (Nat.sub_le _ _))
  have h2 := jturn_ok (p := p) hv hci hok
  rw [e] at h1 h2
  rw [hJ] at h1
  exact ⟨h2, h1.1.symm, h1.2⟩
theorem turn_miss (hv : ∀ c r, r ∈ cs.getD c [] → r.ok = true) (hci : CallsIn cs) (hok : StOk cs F ((c, n) :: st)) (hJ : jval cs p F ((c, n) :: st) = J) (h : (cs.getD c [])[n]? = some r) (ht : thold r.ts p = false) :
    StOk cs F ((c, n + 1) :: st) ∧ jval cs p F ((c, n + 1) :: st) = J ∧ jtime cs F ((c, n + 1) :: st) < jtime cs F ((c, n) :: st) := by
  have e : jturn cs p c n st = ((c, n + 1) :: st, none) := by unfold jturn; rw [h]; simp [ht]
  have h1 := jturn_val (p := p) (F := F) (n := n) (st := st) hv (hok.1.mono (Nat.sub_le _ _))
  have h2 := jturn_ok (p := p) hv hci hok
  rw [e] at h1 h2
  rw [hJ] at h1
  exact ⟨h2, h1.1.symm, h1.2⟩
theorem turn_dec (hv : ∀ c r, r ∈ cs.getD c [] → r.ok = true) (hci : CallsIn cs) (hok : StOk cs F ((c, n) :: st)) (hJ : jval cs p F ((c, n) :: st) = J) (h : (cs.getD c [])[n]? = some r) (ht : thold r.ts p = true) {b : Bool} (ha : r.act = if b = true then 1 else 2) :
    StOk cs F ((c, n + 1) :: st) ∧ J = some b ∧ jtime cs F ((c, n + 1) :: st) < jtime cs F ((c, n) :: st) := by
  have e : jturn cs p c n st = ((c, n + 1) :: st, some b) := by
    unfold jturn; rw [h]
    cases b <;> simp [ht, ha]
  have h1 := jturn_val (p := p) (F := F) (n := n) (st := st) hv (hok.1.mono (Nat.sub_le _ _))
  have h2 := jturn_ok (p := p) hv hci hok
  rw [e] at h1 h2
  rw [hJ] at h1
  exact ⟨h2, h1.1, h1.2⟩
theorem turn_ret (hv : ∀ c r, r ∈ cs.getD c [] → r.ok = true) (hci : CallsIn cs) (hok : StOk cs F ((c, n) :: st)) (hJ : jval cs p F ((c, n) :: st) = J) (h : (cs.getD c [])[n]? = some r) (ht : thold r.ts p = true) (ha : r.act = 4) :
    StOk cs F st ∧ jval cs p F st = J ∧ jtime cs F st < jtime cs F ((c, n) :: st) := by
  have e : jturn cs p c n st = (st, none) := by unfold jturn; rw [h]; simp [ht, ha]
  have h1 := jturn_val (p := p) (F := F) (n := n) (st := st) hv (hok.1.mono (Nat.sub_le _ _))
  have h2 := jturn_ok (p := p) hv hci hok
  rw [e] at h1 h2
  rw [hJ] at h1
  exact ⟨h2, h1.1.symm, h1.2⟩
theorem turn_call (hv : ∀ c r, r ∈ cs.getD c [] → r.ok = true) (hci : CallsIn cs) (hok : StOk cs F ((c, n) :: st)) (hJ : jval cs p F ((c, n) :: st) = J) (h : (cs.getD c [])[n]? = some r) (ht : thold r.ts p = true) (ha : r.act = 3) :
    StOk cs F ((r.ch.toNat, 0) :: (c, n + 1) :: st) ∧ jval cs p F ((r.ch.toNat, 0) :: (c, n + 1) :: st) = J ∧ jtime cs F ((r.ch.toNat, 0) :: (c, n + 1) :: st) < jtime cs F ((c, n) :: st) := by
  have e : jturn cs p c n st = ((r.ch.toNat, 0) :: (c, n + 1) :: st, none) := by unfold jturn; rw [h]; simp [ht, ha]
  have h1 := jturn_val (p := p) (F := F) (n := n) (st := st) hv (hok.1.mono (Nat.sub_le _ _))
  have h2 := jturn_ok (p := p) hv hci hok
  rw [e] at h1 h2
  rw [hJ] at h1
  exact ⟨h2, h1.1.symm, h1.2⟩
theorem turn_pass (hv : ∀ c r, r ∈ cs.getD c [] → r.ok = true) (hci : CallsIn cs) (hok : StOk cs F ((c, n) :: st)) (hJ : jval cs p F ((c, n) :: st) = J) (h : (cs.getD c [])[n]? = some r) (ht : thold r.ts p = true) (h1 : ¬ r.act = 1) (h2 : ¬ r.act = 2) (h3 : ¬ r.act = 3) (h4 : ¬ r.act = 4) :
    StOk cs F ((c, n + 1) :: st) ∧ jval cs p F ((c, n + 1) :: st) = J ∧ jtime cs F ((c, n + 1) :: st) < jtime cs F ((c, n) :: st) := by
  have e : jturn cs p c n st = ((c, n + 1) :: st, none) := by unfold jturn; rw [h]; simp [ht, h1, h2, h3, h4]
  have h1 := jturn_val (p := p) (F := F) (n := n) (st := st) hv (hok.1.mono (Nat.sub_le _ _))
  have h2 := jturn_ok (p := p) hv hci hok
  rw [e] at h1 h2
  rw [hJ] at h1
  exact ⟨h2, h1.1.symm, h1.2⟩
end
theorem rs_six {cs : List (List Ru)} (h : rsvalid cs = true) : Ht cs 6 0 := by
  obtain ⟨-, -, -, -, f, hf⟩ := rsvalid_in h
  exact ht_six hf (by omega)
theorem rs_rules {cs : List (List Ru)} (h : rsvalid cs = true) : ∀ c r, r ∈ cs.getD c [] → r.ok = true := by
  obtain ⟨-, -, -, hv, -⟩ := rsvalid_in h
  intro c r hr
  have h1 := hv _ (getD_mem hr)
  unfold rusvalid at h1
  rw [Bool.and_eq_true] at h1
  exact List.all_eq_true.1 h1.1 r hr
theorem rs_chain {cs : List (List Ru)} (h : rsvalid cs = true) (c : Nat) : (cs.getD c []).length ≤ 8 := by
  obtain ⟨-, -, -, hv, -⟩ := rsvalid_in h
  rw [List.getD_eq_getElem?_getD]
  cases e : cs[c]? with
  | none => simp
  | some l =>
    have h1 := hv _ (List.mem_of_getElem? e)
    unfold rusvalid at h1
    rw [Bool.and_eq_true, decide_eq_true_eq] at h1
    exact h1.2
theorem allHold_b {lo : Nat} {v : Value} {ts : List Te} {a b c d : Int} {w : World} {r : Bool} (hs : SlFr lo 4 Te.enc w v ts) (hv : ts.all Te.ok = true) (hl : ts.length ≤ 1000) (h : thold ts ⟨a, b, c, d⟩ = r) :
    Calls Tryd.prog 39 #[v, .agg #[.int .i64 a, .int .i64 b, .int .i64 c, .int .i64 d]] w fun e w' => e = .returned (.bool r) ∧ Below w.heap.size w w' := by
  subst h
  exact allHold_any w hs hv hl
def VisF (S U : Nat) (sv vv : Value) (st vs : List (Nat × Nat)) (dec : Int) (W w9 : World) (v : Value) : Prop := w9.cell? ⟨U, 1, none⟩ = some vv ∧ w9.frozen? ⟨U, 1, none⟩ = false ∧ (∃ a n c, v = .slice a n c) ∧ Wk S U (w9.setCell ⟨U, 1, none⟩ v) sv v st vs dec ∧ Below S W (w9.setCell ⟨U, 1, none⟩ v)
def WthR (cs : List (List Ru)) (p : Pk) (w : World) (e : Ending) (w' : World) : Prop := ∃ U dec, e = .returned (.pointer (some ⟨U, 0, none⟩)) ∧ U < w'.heap.size ∧ w'.cell? ⟨U, 2, none⟩ = some (.int .i64 dec) ∧ ((dec = 1 ∧ jwalk cs p 6 0 = some true) ∨ (dec = 2 ∧ jwalk cs p 6 0 = some false) ∨ (dec = 5 ∧ jwalk cs p 6 0 = none)) ∧ Below w.heap.size w w'

set_option maxHeartbeats 8000000 in
set_option maxRecDepth 100000 in
theorem walkThrough_any {lo : Nat} {cs : List (List Ru)} {v : Value} {acc : Bool} {a b c d : Int} (w : World) (hs : Rss lo w v cs) (hv : rsvalid cs = true) :
    Calls Tryd.prog 23 #[.agg #[v, .bool acc], .agg #[.int .i64 a, .int .i64 b, .int .i64 c, .int .i64 d]] w (WthR cs ⟨a, b, c, d⟩ w) := by
  obtain ⟨va, vc, rfl, hvl, hvm⟩ := hs.form
  unfold maxLen at hvm
  obtain ⟨n, hn⟩ : ∃ n, cs.length = n := ⟨_, rfl⟩
  have hn1 := (rsvalid_in hv).2.1
  have hn5 := (rsvalid_in hv).2.2.1
  have HN := Lib.hid hn
  rw [hn] at hs hvl hn1 hn5 ⊢
  have HCI := Lib.hid (rsvalid_in hv).1
  have HRU := Lib.hid (rs_rules hv)
  have HCL := Lib.hid (rs_chain hv)
  have h6 := rs_six hv
  obtain ⟨J, hJ⟩ : ∃ J, jwalk cs ⟨a, b, c, d⟩ 6 0 = J := ⟨_, rfl⟩
  have HJ := Lib.hid hJ
  have HST := Lib.hid (show jval cs ⟨a, b, c, d⟩ 6 [(0, 0)] = J from (jval_start HRU.out h6).trans hJ)
  have HSO := Lib.hid (show StOk cs 6 [(0, 0)] from ⟨h6.mono (by simp), by simp only; omega, Nat.zero_le _, trivial⟩)
  obtain ⟨W, hW⟩ : ∃ W, (((w.alloc (.cells #[.slice va n vc, .bool acc] 25)).alloc (.cells #[.int .i64 a, .int .i64 b, .int .i64 c, .int .i64 d] 27)).alloc (.cells #[.int .i64 0, .int .i64 0] 97)).alloc (.cells #[.slice (some ⟨w.heap.size + 1 + 1, 0, none⟩) 1 1, .slice none 0 0, .int .i64 5] 61) = W := ⟨_, rfl⟩
  obtain ⟨hk0, hbW⟩ := Wk.start (.cells #[.slice va n vc, .bool acc] 25) (.cells #[.int .i64 a, .int .i64 b, .int .i64 c, .int .i64 d] 27) W hW
  have HA := alloc4_cells w #[.slice va n vc, .bool acc] #[.int .i64 a, .int .i64 b, .int .i64 c, .int .i64 d] #[.int .i64 0, .int .i64 0] #[.slice (some ⟨w.heap.size + 1 + 1, 0, none⟩) 1 1, .slice none 0 0, .int .i64 5] 25 27 97 61
  rw [hW] at HA
  have r0 : W.cell? ⟨w.heap.size, 0, none⟩ = some (.slice va n vc) := HA.1 0
  have k0 : W.cell? ⟨w.heap.size + 1, 0, none⟩ = some (.int .i64 a) := HA.2.1 0
  have k1 : W.cell? ⟨w.heap.size + 1, 1, none⟩ = some (.int .i64 b) := HA.2.1 1
  have k2 : W.cell? ⟨w.heap.size + 1, 2, none⟩ = some (.int .i64 c) := HA.2.1 2
  have k3 : W.cell? ⟨w.heap.size + 1, 3, none⟩ = some (.int .i64 d) := HA.2.1 3
  have HK0 := Lib.hid hk0
  have HBW := Lib.hid hbW
  have HS := Lib.hid hs
  have HR := Lib.hid (And.intro r0 (And.intro k0 (And.intro k1 (And.intro k2 k3))))
  have hzW : w.heap.size + 1 + 1 < W.heap.size := by have := hk0.lt; omega
  clear HA hs hv h6 hJ hn hvl hk0 hbW r0 k0 k1 k2 k3
  go_enter Tryd.func23, Tryd.ntmps23
  go_wp2_with fail
  go_loopg [] (jtime cs 6 [(0, 0)]) (fun k wr => WtI (w.heap.size + 1 + 1) (w.heap.size + 1 + 1 + 1) cs ⟨a, b, c, d⟩ 6 J W k wr)
  case atStart => exact ⟨_, _, [(0, 0)], [], 5, HK0.out, HSO.out, .inl ⟨rfl, HST.out⟩, by simp, rfl, Below.refl _ _⟩
  case round =>
    clear hW
    obtain ⟨sv, vv, st, vs, dec, hk, hok, hdec, hvs, hjt, hbr⟩ := hrel
    have HBR := Lib.hid hbr
    have hzr := hbr.size
    have hbw : Below w.heap.size w wr := HBW.out.trans (hbr.mono (by omega))
    cases st with
    | nil =>
      have c0 := hk.c0
      have c2 := hk.c2
      have hlt := hk.lt
      have HE := Lib.hid (show WthR cs ⟨a, b, c, d⟩ w (.returned (.pointer (some ⟨w.heap.size + 1 + 1 + 1, 0, none⟩))) wr from ⟨_, dec, rfl, hk.lt, hk.c2, by
        rcases hdec with ⟨e, h⟩ | h | h
        · exact .inr (.inr ⟨e, by rw [HJ.out, ← h]; rfl⟩)
        · exact .inl ⟨h.1, by rw [HJ.out]; exact h.2⟩
        · exact .inr (.inl ⟨h.1, by rw [HJ.out]; exact h.2⟩), hbw⟩)
      obtain ⟨sa, sc, hsv⟩ : ∃ a c, sv = Value.slice a 0 c := by
        rcases OwnSl.form hk.st with ⟨h1, _⟩ | ⟨g, c, h1, _⟩
        · exact ⟨_, _, h1⟩
        · exact ⟨_, _, h1⟩
      subst hsv
      clear hk hdec hbr hbw hok hjt
      go_wp2
      go_ret
      exact HE.out
    | cons x st =>
      obtain ⟨qc, qn⟩ := x
      obtain ⟨m, hm⟩ : ∃ m, st.length = m := ⟨_, rfl⟩
      obtain ⟨g, cap, hsv, hgc, hgm, hgl, hgS, hgU, hgv, e0, e1, ef, -, -⟩ := hk.bump
      unfold maxLen at hgm
      have hm7 : m ≤ 6 := by have := StOk.len hok; simp at this; omega
      have HM := Lib.hid hm
      rw [hm] at hsv hgc e0 e1 ef
      subst hsv
      have m0 : (0 : Int) < (m : Int) + 1 := by omega
      have c0 := hk.c0
      have c2 := hk.c2
      have hlt := hk.lt
      have HK := Lib.hid hk
      have HOK := Lib.hid hok
      rcases hdec with ⟨hd5, hjv⟩ | ⟨hd, hj⟩ | ⟨hd, hj⟩
      · subst hd5
        have HJV := Lib.hid hjv
        have HJT := Lib.hid hjt
        obtain ⟨rs, hrs⟩ : ∃ rs, cs.getD qc [] = rs := ⟨_, rfl⟩
        have hL8 : rs.length ≤ 8 := by rw [← hrs]; exact HCL.out qc
        have hqc : qc < n := by have := hok.2.1; have := HN.out; simp only at *; omega
        have hqn : qn ≤ rs.length := by rw [← hrs]; exact hok.2.2.1
        have hcs : cs[qc]? = some rs := by
          rw [List.getD_eq_getElem?_getD] at hrs
          rw [List.getElem?_eq_getElem (by rw [HN.out]; exact hqc)] at hrs ⊢
          rw [← hrs]; rfl
        have HRS := Lib.hid hrs
        obtain ⟨bb, oo, rv, hva, hbb, hrc, hru⟩ := HS.out.at hcs
        subst hva
        obtain ⟨ra, rcap, hrv, hrl, hrm⟩ := hru.form
        unfold maxLen at hrm
        obtain ⟨rn, hrn⟩ : ∃ rn, rs.length = rn := ⟨_, rfl⟩
        have HRN := Lib.hid hrn
        rw [hrn] at hrv hrl hL8 hqn
        subst hrv
        have HRUS := Lib.hid hru
        have rc1 := (hbw.cell (p := ⟨bb, oo + qc, none⟩) hbb).trans hrc
        have r0 := (hbr.cell (p := ⟨w.heap.size, 0, none⟩) (by simp only; omega)).trans HR.out.1
        have hbbr : bb < wr.heap.size := by have := hbw.size; omega
        have hwr : w.heap.size < wr.heap.size := by omega
        have HBWR := Lib.hid hbw
        have q1 : (qc : Int) < (n : Int) := by omega
        have q2 : (0 : Int) ≤ (qc : Int) := by omega
        clear hrs hcs hrc hru hrn hk hok hjv hjt hbr hbw hm
        go_wp2_with fail
        (refine wp_region_bel (W := wr) [BIs (.pointer (some ⟨w.heap.size + 1 + 1 + 1, 0, none⟩)), BIs (.pointer (some ⟨w.heap.size + 1 + 1 + 1, 0, none⟩)), BIs (.pointer (some ⟨w.heap.size + 1 + 1 + 1, 0, none⟩)), BIs (.slice (some ⟨g, 0, none⟩) (m + 1) cap), BIs (.pointer (some ⟨w.heap.size + 1 + 1 + 1, 0, none⟩)), BIs (.pointer (some ⟨w.heap.size + 1 + 1 + 1, 0, none⟩)), BIs (.pointer (some ⟨w.heap.size + 1 + 1 + 1, 0, none⟩)), BIs (.slice (some ⟨g, 0, none⟩) (m + 1) cap), BIs (.int .i64 ((m : Int) + 1)), BIs (.int .i64 (m : Int)), BIs (.pointer (some ⟨g, m * 2, none⟩)), BIs (.pointer (some ⟨g, m * 2, none⟩))] (by kernel_rfl) (fun u => by simp only [frU, Act.put, List.setIfInBounds_toArray, List.set_cons_succ, List.set_cons_zero, Nat.zero_add, Nat.reduceAdd]; exact rfl) (by kernel_rfl) ⟨bst_is _, bst_is _, bst_is _, bst_is _, bst_is _, bst_is _, bst_is _, bst_is _, bst_is _, bst_is _, bst_is _, bst_is _, trivial⟩ ?_ ?_; exact ⟨stB rfl (fun u w3 hC hd Q K hK => by (go_step; exact hK _ _ rfl (Below.refl _ _) rfl)), stB rfl (fun u w3 hC hd Q K hK => by (have hu := bis (w := w3) (hd 0 rfl); rw [hu] at hK ⊢; clear hu; go_step; exact hK _ _ rfl (Below.refl _ _) rfl)), stB rfl (fun u w3 hC hd Q K hK => by (have hu := bis (w := w3) (hd 1 rfl); rw [hu] at hK ⊢; clear hu; go_step; exact hK _ _ rfl (Below.refl _ _) rfl)), stB rfl (fun u w3 hC hd Q K hK => by (have hu := bis (w := w3) (hd 2 rfl); rw [hu] at hK ⊢; clear hu; have z0 := (hC.cell (p := ⟨w.heap.size + 1 + 1 + 1, 0, none⟩) hlt).trans c0; go_step; exact hK _ _ rfl (Below.refl _ _) rfl)), stB rfl (fun u w3 hC hd Q K hK => by (go_step; exact hK _ _ rfl (Below.refl _ _) rfl)), stB rfl (fun u w3 hC hd Q K hK => by (have hu := bis (w := w3) (hd 4 rfl); rw [hu] at hK ⊢; clear hu; go_step; exact hK _ _ rfl (Below.refl _ _) rfl)), stB rfl (fun u w3 hC hd Q K hK => by (have hu := bis (w := w3) (hd 5 rfl); rw [hu] at hK ⊢; clear hu; go_step; exact hK _ _ rfl (Below.refl _ _) rfl)), stB rfl (fun u w3 hC hd Q K hK => by (have hu := bis (w := w3) (hd 6 rfl); rw [hu] at hK ⊢; clear hu; have z0 := (hC.cell (p := ⟨w.heap.size + 1 + 1 + 1, 0, none⟩) hlt).trans c0; go_step; exact hK _ _ rfl (Below.refl _ _) rfl)), stB rfl (fun u w3 hC hd Q K hK => by (have hu := bis (w := w3) (hd 7 rfl); rw [hu] at hK ⊢; clear hu; go_step; exact hK _ _ rfl (Below.refl _ _) rfl)), stB rfl (fun u w3 hC hd Q K hK => by (have hu := bis (w := w3) (hd 8 rfl); rw [hu] at hK ⊢; clear hu; go_step; exact hK _ _ rfl (Below.refl _ _) rfl)), stB rfl (fun u w3 hC hd Q K hK => by (have hu := bis (w := w3) (hd 3 rfl); rw [hu] at hK ⊢; clear hu; have hu := bis (w := w3) (hd 9 rfl); rw [hu] at hK ⊢; clear hu; go_step; exact hK _ _ rfl (Below.refl _ _) rfl)), stB rfl (fun u w3 hC hd Q K hK => by (have hu := bis (w := w3) (hd 10 rfl); rw [hu] at hK ⊢; clear hu; go_step; exact hK _ _ rfl (Below.refl _ _) rfl)), trivial⟩); intro u w3 hb_w3 hF; rw [bis (w := w3) (hF 0 (by decide))]; rw [bis (w := w3) (hF 1 (by decide))]; rw [bis (w := w3) (hF 2 (by decide))]; rw [bis (w := w3) (hF 3 (by decide))]; rw [bis (w := w3) (hF 4 (by decide))]; rw [bis (w := w3) (hF 5 (by decide))]; rw [bis (w := w3) (hF 6 (by decide))]; rw [bis (w := w3) (hF 7 (by decide))]; rw [bis (w := w3) (hF 8 (by decide))]; rw [bis (w := w3) (hF 9 (by decide))]; rw [bis (w := w3) (hF 10 (by decide))]; rw [bis (w := w3) (hF 11 (by decide))]; clear hF
        have hb3 := hb_w3
        have hz3 := hb3.size
        have r03 := (hb3.cell (p := ⟨w.heap.size, 0, none⟩) hwr).trans r0
        have e03 := (hb3.cell (p := ⟨g, m * 2, none⟩) hgl).trans e0
        have rc3 := (hb3.cell (p := ⟨bb, oo + qc, none⟩) hbbr).trans rc1
        have l3 : w.heap.size < w3.heap.size := by omega
        have g3 : g < w3.heap.size := by omega
        have b3 : bb < w3.heap.size := by omega
        clear r0 rc1 c0 c2
        go_wp2_with fail
        (refine wp_region_bel (W := w3) [BIs (.pointer (some ⟨w.heap.size, 0, none⟩)), BIs (.slice (some ⟨bb, oo, none⟩) n vc), BIs (.pointer (some ⟨g, m * 2, none⟩)), BIs (.pointer (some ⟨g, m * 2, none⟩)), BIs (.pointer (some ⟨g, m * 2, none⟩)), BIs (.int .i64 (qc : Int)), BIs (.pointer (some ⟨bb, oo + qc, none⟩)), BIs (.slice ra rn rcap), BIs (.slice ra rn rcap)] (by kernel_rfl) (fun u => by simp only [frU, Act.put, List.setIfInBounds_toArray, List.set_cons_succ, List.set_cons_zero, Nat.zero_add, Nat.reduceAdd]; exact rfl) (by kernel_rfl) ⟨bst_is _, bst_is _, bst_is _, bst_is _, bst_is _, bst_is _, bst_is _, bst_is _, bst_is _, trivial⟩ ?_ ?_; exact ⟨stB rfl (fun u w3 hC hd Q K hK => by (go_step; exact hK _ _ rfl (Below.refl _ _) rfl)), stB rfl (fun u w3 hC hd Q K hK => by (have hu := bis (w := w3) (hd 0 rfl); rw [hu] at hK ⊢; clear hu; have z0 := (hC.cell (p := ⟨w.heap.size, 0, none⟩) l3).trans r03; go_step; exact hK _ _ rfl (Below.refl _ _) rfl)), stB rfl (fun u w3 hC hd Q K hK => by (go_step; exact hK _ _ rfl (Below.refl _ _) rfl)), stB rfl (fun u w3 hC hd Q K hK => by (have hu := bis (w := w3) (hd 2 rfl); rw [hu] at hK ⊢; clear hu; go_step; exact hK _ _ rfl (Below.refl _ _) rfl)), stB rfl (fun u w3 hC hd Q K hK => by (have hu := bis (w := w3) (hd 3 rfl); rw [hu] at hK ⊢; clear hu; go_step; exact hK _ _ rfl (Below.refl _ _) rfl)), stB rfl (fun u w3 hC hd Q K hK => by (have hu := bis (w := w3) (hd 4 rfl); rw [hu] at hK ⊢; clear hu; have z0 := (hC.cell (p := ⟨g, m * 2, none⟩) g3).trans e03; go_step; exact hK _ _ rfl (Below.refl _ _) rfl)), stB rfl (fun u w3 hC hd Q K hK => by (have hu := bis (w := w3) (hd 1 rfl); rw [hu] at hK ⊢; clear hu; have hu := bis (w := w3) (hd 5 rfl); rw [hu] at hK ⊢; clear hu; go_step; exact hK _ _ rfl (Below.refl _ _) rfl)), stB rfl (fun u w3 hC hd Q K hK => by (have hu := bis (w := w3) (hd 6 rfl); rw [hu] at hK ⊢; clear hu; have z0 := (hC.cell (p := ⟨bb, oo + qc, none⟩) b3).trans rc3; go_step; exact hK _ _ rfl (Below.refl _ _) rfl)), stB rfl (fun u w3 hC hd Q K hK => by (have hu := bis (w := w3) (hd 7 rfl); rw [hu] at hK ⊢; clear hu; go_step; exact hK _ _ rfl (Below.refl _ _) rfl)), trivial⟩); intro u w4 hb_w4 hF; rw [bis (w := w4) (hF 0 (by decide))]; rw [bis (w := w4) (hF 1 (by decide))]; rw [bis (w := w4) (hF 2 (by decide))]; rw [bis (w := w4) (hF 3 (by decide))]; rw [bis (w := w4) (hF 4 (by decide))]; rw [bis (w := w4) (hF 5 (by decide))]; rw [bis (w := w4) (hF 6 (by decide))]; rw [bis (w := w4) (hF 7 (by decide))]; rw [bis (w := w4) (hF 8 (by decide))]; clear hF
        have hb4 := hb3.trans (hb_w4.mono hz3)
        have hz4 := hb4.size
        have HK4 := Lib.hid (HK.out.below hb4)
        have f1 := (hb4.cell (p := ⟨g, m * 2 + 1, none⟩) hgl).trans e1
        have hbw4 := HBWR.out.trans (hb4.mono HBWR.out.size)
        have HB4 := Lib.hid (show Below (w.heap.size + 1 + 1) W w4 from HBR.out.trans (hb4.mono (by omega)))
        have hg4 : g < w4.heap.size := by omega
        clear r03 e03 rc3 e0 e1 ef hb_w3 hb_w4 hb3 l3 g3 b3 HK hbbr hwr
        by_cases hq : qn < rn
        · obtain ⟨r, hr⟩ : ∃ r, rs[qn]? = some r := ⟨_, List.getElem?_eq_getElem (by rw [HRN.out]; exact hq)⟩
          obtain ⟨b9, o9, tv, hra, hb9, t0, t1, t2, hts⟩ := HRUS.out.at hr
          subst hra
          obtain ⟨ta, tc, htv, htl, htm⟩ := hts.form
          obtain ⟨tn, htn⟩ : ∃ tn, r.ts.length = tn := ⟨_, rfl⟩
          rw [htn] at htv
          subst htv
          have hgr : (cs.getD qc [])[qn]? = some r := by rw [HRS.out]; exact hr
          have hrok := HRU.out qc r (List.mem_of_getElem? hgr)
          have HTS := Lib.hid hts
          have hTS : r.ts.all Te.ok = true ∧ r.ts.length ≤ 6 := by
            have h := hrok
            unfold Ru.ok tsvalid at h
            simp only [Bool.and_eq_true, decide_eq_true_eq] at h
            exact ⟨h.1.1.1, h.1.1.2⟩
          have HTV := Lib.hid hTS
          have HGR := Lib.hid hgr
          have HRK := Lib.hid hrok
          have HT := Lib.hid (And.intro hb9 (And.intro t0 (And.intro t1 t2)))
          have hne : ((qn : Int) == (rn : Int)) = false := by simp; omega
          have qb : (qn : Int) < (rn : Int) := by omega
          have qz : (0 : Int) ≤ (qn : Int) := by omega
          have qw : (qn : Int) < 8 := by omega
          obtain ⟨hh, hhh⟩ : ∃ hh, thold r.ts ⟨a, b, c, d⟩ = hh := ⟨_, rfl⟩
          have HH := Lib.hid hhh
          obtain ⟨g', cap', hsv', -, -, -, -, -, -, -, -, ef, hkb, hbb5⟩ := HK4.out.bump
          obtain ⟨e1, -, e3⟩ := Value.slice.inj hsv'
          cases e1
          subst e3
          rw [HM.out] at hkb hbb5 ef
          obtain ⟨W5, hW5⟩ : ∃ W5, w4.setCell ⟨g, m * 2 + 1, none⟩ (.int .i64 ((qn : Int) + 1)) = W5 := ⟨_, rfl⟩
          rw [hW5] at hkb hbb5
          have HK5 := Lib.hid hkb
          have HBB5 := Lib.hid hbb5
          have hz5 := hbb5.size
          have hbw5 : Below w.heap.size w W5 := hbw4.trans (hbb5.mono (by omega))
          have HBW5 := Lib.hid hbw5
          have t05 := (hbw5.cell (p := ⟨b9, o9 + qn * 3, none⟩) hb9).trans t0
          have lt5 : b9 < W5.heap.size := by have := hbw5.size; omega
          have HW5S := Lib.hid (HB4.out.trans hbb5)
          have hw5s := HW5S.out
          have s0 := (hw5s.cell (p := ⟨w.heap.size + 1, 0, none⟩) (by simp only; omega)).trans HR.out.2.1
          have s1 := (hw5s.cell (p := ⟨w.heap.size + 1, 1, none⟩) (by simp only; omega)).trans HR.out.2.2.1
          have s2 := (hw5s.cell (p := ⟨w.heap.size + 1, 2, none⟩) (by simp only; omega)).trans HR.out.2.2.2.1
          have s3 := (hw5s.cell (p := ⟨w.heap.size + 1, 3, none⟩) (by simp only; omega)).trans HR.out.2.2.2.2
          have lp5 : w.heap.size + 1 < W5.heap.size := by have := hw5s.size; omega
          clear hr t0 t1 t2 hts htl htm htn hgr hrok hTS hhh hkb hbb5 hbw5 hsv' hw5s hbw4
          go_wp2_with fail
          clear hW5 f1 ef hne
          (refine wp_region_bel (W := W5) [BIs (.slice (some ⟨b9, o9, none⟩) rn rcap), BIs (.int .i64 (qn : Int)), BIs (.pointer (some ⟨b9, o9 + qn * 3, none⟩)), BIs (.pointer (some ⟨b9, o9 + qn * 3, none⟩)), BIs (.slice ta tn tc), BIs (.agg #[.int .i64 a, .int .i64 b, .int .i64 c, .int .i64 d]), (BIs (.bool hh)), BIs (.bool (!hh))] (by kernel_rfl) (fun u => by simp only [frU, Act.put, List.setIfInBounds_toArray, List.set_cons_succ, List.set_cons_zero, Nat.zero_add, Nat.reduceAdd]; exact rfl) (by kernel_rfl) ⟨bst_is _, bst_is _, bst_is _, bst_is _, bst_is _, bst_is _, (bst_is _), bst_is _, trivial⟩ ?_ ?_; exact ⟨stB rfl (fun u w3 hC hd Q K hK => by (go_step; exact hK _ _ rfl (Below.refl _ _) rfl)), stB rfl (fun u w3 hC hd Q K hK => by (go_step; exact hK _ _ rfl (Below.refl _ _) rfl)), stB rfl (fun u w3 hC hd Q K hK => by (have hu := bis (w := w3) (hd 0 rfl); rw [hu] at hK ⊢; clear hu; have hu := bis (w := w3) (hd 1 rfl); rw [hu] at hK ⊢; clear hu; go_step; exact hK _ _ rfl (Below.refl _ _) rfl)), stB rfl (fun u w3 hC hd Q K hK => by (have hu := bis (w := w3) (hd 2 rfl); rw [hu] at hK ⊢; clear hu; go_step; exact hK _ _ rfl (Below.refl _ _) rfl)), stB rfl (fun u w3 hC hd Q K hK => by (have hu := bis (w := w3) (hd 3 rfl); rw [hu] at hK ⊢; clear hu; have z0 := (hC.cell (p := ⟨b9, o9 + qn * 3, none⟩) lt5).trans t05; go_step; exact hK _ _ rfl (Below.refl _ _) rfl)), stB rfl (fun u w3 hC hd Q K hK => by (have z0 := (hC.cell (p := ⟨w.heap.size + 1, 0, none⟩) lp5).trans s0; have z1 := (hC.cell (p := ⟨w.heap.size + 1, 1, none⟩) lp5).trans s1; have z2 := (hC.cell (p := ⟨w.heap.size + 1, 2, none⟩) lp5).trans s2; have z3 := (hC.cell (p := ⟨w.heap.size + 1, 3, none⟩) lp5).trans s3; go_step; exact hK _ _ rfl (Below.refl _ _) rfl)), stB rfl (fun u w3 hC hd Q K hK => by (have hu := bis (w := w3) (hd 4 rfl); rw [hu] at hK ⊢; clear hu; have hu := bis (w := w3) (hd 5 rfl); rw [hu] at hK ⊢; clear hu; go_step; refine (allHold_b ((HTS.out.below HBW5.out).below hC) HTV.out.1 (by have := HTV.out.2; omega) HH.out).mono ?_; rintro e w4 ⟨rfl, hb4⟩; exact hK _ _ rfl hb4 rfl)), stB rfl (fun u w3 hC hd Q K hK => by (have hu := bis (w := w3) (hd 6 rfl); rw [hu] at hK ⊢; clear hu; go_step; exact hK _ _ rfl (Below.refl _ _) rfl)), trivial⟩); intro u w6 hb_w6 hF; rw [bis (w := w6) (hF 0 (by decide))]; rw [bis (w := w6) (hF 1 (by decide))]; rw [bis (w := w6) (hF 2 (by decide))]; rw [bis (w := w6) (hF 3 (by decide))]; rw [bis (w := w6) (hF 4 (by decide))]; rw [bis (w := w6) (hF 5 (by decide))]; generalize u 6 = vx6 at *; rw [bis (w := w6) (hF 7 (by decide))]; clear hF
          have hb6 := hb_w6
          have HK6 := Lib.hid (HK5.out.below hb6)
          have HB6 := Lib.hid (show Below (w.heap.size + 1 + 1) W w6 from HW5S.out.trans (hb6.mono (by omega)))
          have HW6 := Lib.hid (show Below w.heap.size w w6 from HBW5.out.trans (hb6.mono HBW5.out.size))
          clear hb_w6 t05 s0 s1 s2 s3 HK5 HK4 HB4 HBR HBWR
          cases hh
          · have HT9 := Lib.hid (turn_miss HRU.out HCI.out HOK.out HJV.out HGR.out HH.out)
            clear hb6
            go_wp2_with fail
            go_roundg (jtime cs 6 ((qc, qn + 1) :: st))
            case measure => rw [← HJT.out]; exact HT9.out.2.2
            case rel => exact ⟨_, _, _, _, 5, HK6.out, HT9.out.1, .inl ⟨rfl, HT9.out.2.1⟩, hvs, rfl, HB6.out⟩
          · have u1 := HK6.out.c1
            obtain ⟨ya, yn, yc, hvv⟩ : ∃ a n c, vv = Value.slice a n c ∧ n = vs.length := by
              rcases OwnSl.form HK6.out.vs with ⟨h1, h2⟩ | ⟨g, c, h1, _⟩
              · exact ⟨_, _, _, h1, by rw [h2]; rfl⟩
              · exact ⟨_, _, _, h1, rfl⟩
            obtain ⟨hvv, hyn⟩ := hvv
            subst hvv
            have HYN := Lib.hid hyn
            clear hyn hb6
            have l6 := HK6.out.lt
            have e06 := (HK6.out.bump)
            obtain ⟨g', cap', hsv', -, -, l7, -, -, -, e06, -⟩ := e06
            obtain ⟨e1, -, e3⟩ := Value.slice.inj hsv'
            cases e1
            subst e3
            rw [HM.out] at e06
            have HVS := Lib.hid hvs
            clear hsv' hvs
            go_upto_if 78 with (fail)
            go_cut [] (fun wx => ∃ vv' vs', Wk (w.heap.size + 1 + 1) (w.heap.size + 1 + 1 + 1) wx (.slice (some ⟨g, 0, none⟩) (m + 1) cap) vv' ((qc, qn + 1) :: st) vs' 5 ∧ vs'.length ≤ 200 ∧ Below (w.heap.size + 1 + 1) W wx)
            case first =>
              by_cases hv : yn < 200
              · have hvi : (yn : Int) < 200 := by omega
                have hb9 : vs.length ≤ 100000 := by rw [← HYN.out]; omega
                have hL9 := Lib.hid (show (vs ++ [(qc, qn)]).length ≤ 200 by rw [List.length_append, ← HYN.out]; simp; omega)
                go_wp2_with fail
                refine wp_region_u (W := w6) 12 16 [BIs (.pointer (some ⟨w.heap.size + 1 + 1 + 1, 0, none⟩)), BIs (.pointer (some ⟨w.heap.size + 1 + 1 + 1, 0, none⟩)), BIs (.pointer (some ⟨w.heap.size + 1 + 1 + 1, 0, none⟩)), BIs (.pointer (some ⟨w.heap.size + 1 + 1 + 1, 1, none⟩)), BIs (.slice ya yn yc), BIs (.pointer (some ⟨g, m * 2, none⟩)), BIs (.pointer (some ⟨g, m * 2, none⟩)), BIs (.pointer (some ⟨g, m * 2, none⟩)), BIs (.int .i64 (qc : Int)), BIs (.int .i64 (qn : Int)), BIs (.agg #[.int .i64 (qc : Int), .int .i64 (qn : Int)]), (LitP qc qn)] (bof [BIs (.pointer (some ⟨w.heap.size + 1 + 1 + 1, 0, none⟩)), BIs (.pointer (some ⟨w.heap.size + 1 + 1 + 1, 0, none⟩)), BIs (.pointer (some ⟨w.heap.size + 1 + 1 + 1, 0, none⟩)), BIs (.pointer (some ⟨w.heap.size + 1 + 1 + 1, 1, none⟩)), BIs (.slice ya yn yc), BIs (.pointer (some ⟨g, m * 2, none⟩)), BIs (.pointer (some ⟨g, m * 2, none⟩)), BIs (.pointer (some ⟨g, m * 2, none⟩)), BIs (.int .i64 (qc : Int)), BIs (.int .i64 (qn : Int)), BIs (.agg #[.int .i64 (qc : Int), .int .i64 (qn : Int)]), (fun _ _ => True), (VisF (w.heap.size + 1 + 1) (w.heap.size + 1 + 1 + 1) (.slice (some ⟨g, 0, none⟩) (m + 1) cap) (.slice ya yn yc) (List.cons (qc, qn + 1) st) (vs ++ [(qc, qn)]) 5 w6), BIs (.pointer (some ⟨w.heap.size + 1 + 1 + 1, 0, none⟩)), BIs (.pointer (some ⟨w.heap.size + 1 + 1 + 1, 1, none⟩))]) (fun w9 => ∃ v, Wk (w.heap.size + 1 + 1) (w.heap.size + 1 + 1 + 1) w9 (.slice (some ⟨g, 0, none⟩) (m + 1) cap) v (List.cons (qc, qn + 1) st) (vs ++ [(qc, qn)]) 5 ∧ Below (w.heap.size + 1 + 1) w6 w9) (by kernel_rfl) (by decide) rfl (fun u => by simp only [frU, Act.put, List.setIfInBounds_toArray, List.set_cons_succ, List.set_cons_zero, Nat.zero_add, Nat.reduceAdd]; exact rfl) (by kernel_rfl) (by kernel_rfl) ⟨bst_is _, bst_is _, bst_is _, bst_is _, bst_is _, bst_is _, bst_is _, bst_is _, bst_is _, bst_is _, bst_is _, (litP_b), trivial⟩ ?_ ?_; (exact ⟨stUf rfl (by decide) (fun u w3 hC hd Q K hK => by (go_step; exact hK _ _ rfl (Below.refl _ _) rfl)) (fun u w3 hd Q K hK => by (dsimp only at hK ⊢; go_step; exact hK _ rfl rfl)), stU rfl (by decide) (by kernel_rfl) (fun u w3 hC hd Q K hK => by (go_step; exact hK _ _ rfl (Below.refl _ _) rfl)), stU rfl (by decide) (by kernel_rfl) (fun u w3 hC hd Q K hK => by (have hu := bis (w := w3) (hd 1 rfl); rw [hu] at hK ⊢; clear hu; go_step; exact hK _ _ rfl (Below.refl _ _) rfl)), stU rfl (by decide) (by kernel_rfl) (fun u w3 hC hd Q K hK => by (have hu := bis (w := w3) (hd 2 rfl); rw [hu] at hK ⊢; clear hu; go_step; exact hK _ _ rfl (Below.refl _ _) rfl)), stU rfl (by decide) (by kernel_rfl) (fun u w3 hC hd Q K hK => by (have hu := bis (w := w3) (hd 3 rfl); rw [hu] at hK ⊢; clear hu; have z0 := (hC.cell (p := ⟨w.heap.size + 1 + 1 + 1, 1, none⟩) l6).trans u1; go_step; exact hK _ _ rfl (Below.refl _ _) rfl)), stU rfl (by decide) (by kernel_rfl) (fun u w3 hC hd Q K hK => by (go_step; exact hK _ _ rfl (Below.refl _ _) rfl)), stU rfl (by decide) (by kernel_rfl) (fun u w3 hC hd Q K hK => by (have hu := bis (w := w3) (hd 5 rfl); rw [hu] at hK ⊢; clear hu; go_step; exact hK _ _ rfl (Below.refl _ _) rfl)), stU rfl (by decide) (by kernel_rfl) (fun u w3 hC hd Q K hK => by (have hu := bis (w := w3) (hd 6 rfl); rw [hu] at hK ⊢; clear hu; go_step; exact hK _ _ rfl (Below.refl _ _) rfl)), stU rfl (by decide) (by kernel_rfl) (fun u w3 hC hd Q K hK => by (have hu := bis (w := w3) (hd 7 rfl); rw [hu] at hK ⊢; clear hu; have z0 := (hC.cell (p := ⟨g, m * 2, none⟩) l7).trans e06; go_step; exact hK _ _ rfl (Below.refl _ _) rfl)), stU rfl (by decide) (by kernel_rfl) (fun u w3 hC hd Q K hK => by (go_step; exact hK _ _ rfl (Below.refl _ _) rfl)), stU rfl (by decide) (by kernel_rfl) (fun u w3 hC hd Q K hK => by (have hu := bis (w := w3) (hd 8 rfl); rw [hu] at hK ⊢; clear hu; have hu := bis (w := w3) (hd 9 rfl); rw [hu] at hK ⊢; clear hu; go_step; exact hK _ _ rfl (Below.refl _ _) rfl)), stU rfl (by decide) (by kernel_rfl) (fun u w3 hC hd Q K hK => by (have hu := bis (w := w3) (hd 10 rfl); rw [hu] at hK ⊢; clear hu; go_step; exact hK _ _ rfl ((Below.refl _ _).alloc (Nat.le_refl _) _) ⟨_, rfl, by simp, by simp, by simp⟩)), stUt rfl (by decide) (fun u w3 hC hd Q K hK => by (dsimp only at hK ⊢; have hu := bis (w := w3) (hd 4 rfl); rw [hu] at hK ⊢; clear hu; obtain ⟨gg, hu, hg, k0, k1⟩ := hd 11 rfl; rw [hu] at hK ⊢; clear hu; obtain ⟨v5, w5, hrun, hc5, hf5, hfm5, hk5, hb5⟩ := (HK6.out.below hC).visit 46 (qc, qn) (slP hg k0 k1) hb9; refine wp_append_run (.tmp 83) (.tmp 90) 46 rfl rfl rfl hrun ?_; refine hK _ _ rfl (fun j hj h => ?_) ?_; (match j, hj, h with | 0, _, h => exact h | 1, _, h => exact h | 2, _, h => exact h | 3, _, h => exact h | 4, _, h => exact h | 5, _, h => exact h | 6, _, h => exact h | 7, _, h => exact h | 8, _, h => exact h | 9, _, h => exact h | 10, _, h => exact h | 11, _, _ => exact trivial | j + 12, hj, _ => exact absurd hj (by omega)); exact ⟨hc5, hf5, hfm5, hk5, (hC.mono (by omega)).trans hb5⟩)), stUb rfl (by decide) (by decide) (by kernel_rfl) (fun u w3 hd Q K hK => by (dsimp only at hK ⊢; have hu := bis (w := w3) (hd 0 rfl); rw [hu] at hK ⊢; clear hu; go_step; exact hK _ rfl rfl)), stUb rfl (by decide) (by decide) (by kernel_rfl) (fun u w3 hd Q K hK => by (dsimp only at hK ⊢; have hu := bis (w := w3) (hd 13 rfl); rw [hu] at hK ⊢; clear hu; go_step; exact hK _ rfl rfl)), stUl rfl (by decide) rfl (fun u w3 hd Q K hK => by (dsimp only at hK ⊢; have hu := bis (w := w3) (hd 14 rfl); rw [hu] at hK ⊢; clear hu; have h5 := hd 12 rfl; generalize u 12 = v5 at *; obtain ⟨z0, z1, ⟨qa, qn9, qc9, hqq⟩, hk5, hb5⟩ := h5; subst hqq; go_step; exact hK _ _ rfl ⟨_, hk5, hb5⟩)), trivial⟩); intro u w9 hD
                obtain ⟨v9, hk9, hb9⟩ := hD
                have HK9 := Lib.hid hk9
                have HB9 := Lib.hid (HB6.out.trans hb9)
                clear hk9 hb9
                go_wp2_with fail
                go_meet
                exact ⟨v9, _, HK9.out, hL9.out, HB9.out⟩
              · have hvi : ¬ (yn : Int) < 200 := by omega
                go_wp2_with fail
                go_meet
                exact ⟨_, vs, HK6.out, HVS.out, HB6.out⟩
            case rest =>
              obtain ⟨vv', vs', hkc, hvc, hbc⟩ := hcut
              have hwc : Below w.heap.size w wc := HBW.out.trans (hbc.mono (by omega))
              have HKC := Lib.hid hkc
              have HBC := Lib.hid hbc
              have t0 := (hwc.cell (p := ⟨b9, o9 + qn * 3, none⟩) HT.out.1).trans HT.out.2.1
              have t1 := (hwc.cell (p := ⟨b9, o9 + qn * 3 + 1, none⟩) HT.out.1).trans HT.out.2.2.1
              have t2 := (hwc.cell (p := ⟨b9, o9 + qn * 3 + 2, none⟩) HT.out.1).trans HT.out.2.2.2
              clear hkc hbc hwc HK6 HB6 HW6 HVS HYN u1 e06
              obtain ⟨ra9, hra9⟩ : ∃ x, r.act = x := ⟨_, rfl⟩
              obtain ⟨rc9, hrc9⟩ : ∃ x, r.ch = x := ⟨_, rfl⟩
              rw [hra9] at t1
              rw [hrc9] at t2
              have HRA := Lib.hid hra9
              have HRC := Lib.hid hrc9
              clear hra9 hrc9
              by_cases h1 : ra9 = 1
              · subst h1
                have HT9 := Lib.hid (turn_dec (b := true) HRU.out HCI.out HOK.out HJV.out HGR.out HH.out (by rw [HRA.out]; rfl))
                go_wp2_with fail
                refine (actionOf1 _ _ _ _ _).mono ?_
                rintro e w7 ⟨rfl, hb7⟩
                have HK7 := Lib.hid (HKC.out.below hb7)
                have HB7 := Lib.hid (HBC.out.trans (hb7.mono (by have := HKC.out.lt; omega)))
                clear hb7 t0 t1 t2
                go_wp2_with fail
                refine (deciding_walk true HK7.out).mono ?_
                rintro e w8 ⟨sv8, rfl, hk8, hb8⟩
                rw [if_pos rfl] at hk8
                have HK8 := Lib.hid hk8
                have HB8 := Lib.hid (HB7.out.trans hb8)
                clear hk8 hb8
                go_wp2_with fail
                go_roundg (jtime cs 6 ((qc, qn + 1) :: st))
                case measure => rw [← HJT.out]; exact HT9.out.2.2
                case rel => exact ⟨_, _, _, _, 1, HK8.out, HT9.out.1, .inr (.inl ⟨rfl, HT9.out.2.1⟩), hvc, rfl, HB8.out⟩
              · by_cases h2 : ra9 = 2
                · subst h2
                  have HT9 := Lib.hid (turn_dec (b := false) HRU.out HCI.out HOK.out HJV.out HGR.out HH.out (by rw [HRA.out]; rfl))
                  go_wp2_with fail
                  refine (actionOf2 _ _ _ _ _).mono ?_
                  rintro e w7 ⟨rfl, hb7⟩
                  have HK7 := Lib.hid (HKC.out.below hb7)
                  have HB7 := Lib.hid (HBC.out.trans (hb7.mono (by have := HKC.out.lt; omega)))
                  clear hb7 t0 t1 t2
                  go_wp2_with fail
                  refine (deciding_walk false HK7.out).mono ?_
                  rintro e w8 ⟨sv8, rfl, hk8, hb8⟩
                  rw [if_neg (by simp)] at hk8
                  have HK8 := Lib.hid hk8
                  have HB8 := Lib.hid (HB7.out.trans hb8)
                  clear hk8 hb8
                  go_wp2_with fail
                  go_roundg (jtime cs 6 ((qc, qn + 1) :: st))
                  case measure => rw [← HJT.out]; exact HT9.out.2.2
                  case rel => exact ⟨_, _, _, _, 2, HK8.out, HT9.out.1, .inr (.inr ⟨rfl, HT9.out.2.1⟩), hvc, rfl, HB8.out⟩
                · by_cases h4 : ra9 = 4
                  · subst h4
                    have HT9 := Lib.hid (turn_ret HRU.out HCI.out HOK.out HJV.out HGR.out HH.out HRA.out)
                    go_wp2_with fail
                    refine (actionOf4 _ _ _ _ _).mono ?_
                    rintro e w7 ⟨rfl, hb7⟩
                    have HK7 := Lib.hid (HKC.out.below hb7)
                    have HB7 := Lib.hid (HBC.out.trans (hb7.mono (by have := HKC.out.lt; omega)))
                    clear hb7 t0 t1 t2
                    go_wp2_with fail
                    refine (returning_walk HK7.out).mono ?_
                    rintro e w8 ⟨sv8, rfl, hk8, hb8⟩
                    have HK8 := Lib.hid hk8
                    have HB8 := Lib.hid (HB7.out.trans hb8)
                    clear hk8 hb8
                    go_wp2_with fail
                    go_roundg (jtime cs 6 st)
                    case measure => rw [← HJT.out]; exact HT9.out.2.2
                    case rel => exact ⟨_, _, _, _, 5, HK8.out, HT9.out.1, .inl ⟨rfl, HT9.out.2.1⟩, hvc, rfl, HB8.out⟩
                  · by_cases h3 : ra9 = 3
                    · subst h3
                      have HT9 := Lib.hid (turn_call HRU.out HCI.out HOK.out HJV.out HGR.out HH.out HRA.out)
                      have hc0 : 0 ≤ rc9 := by
                        have h := HCI.out _ (getD_mem (List.mem_of_getElem? HGR.out)) r (List.mem_of_getElem? HGR.out) HRA.out
                        rw [HRC.out] at h
                        exact h.1
                      obtain ⟨kc, rfl⟩ := Int.eq_ofNat_of_zero_le hc0
                      have hkc : r.ch.toNat = kc := by rw [HRC.out]; rfl
                      rw [hkc] at HT9
                      clear hc0 hkc
                      go_wp2_with fail
                      refine (actionOf3 _ _ _ _ _).mono ?_
                      rintro e w7 ⟨rfl, hb7⟩
                      have HK7 := Lib.hid (HKC.out.below hb7)
                      have HB7 := Lib.hid (HBC.out.trans (hb7.mono (by have := HKC.out.lt; omega)))
                      clear hb7 t0 t1 t2
                      go_wp2_with fail
                      refine (calling_walk kc HK7.out (by simp only [List.length_cons, HM.out]; omega)).mono ?_
                      rintro e w8 ⟨sv8, rfl, hk8, hb8⟩
                      have HK8 := Lib.hid hk8
                      have HB8 := Lib.hid (HB7.out.trans hb8)
                      clear hk8 hb8
                      go_wp2_with fail
                      go_roundg (jtime cs 6 ((kc, 0) :: (qc, qn + 1) :: st))
                      case measure => rw [← HJT.out]; exact HT9.out.2.2
                      case rel => exact ⟨_, _, _, _, 5, HK8.out, HT9.out.1, .inl ⟨rfl, HT9.out.2.1⟩, hvc, rfl, HB8.out⟩
                    · have HT9 := Lib.hid (turn_pass HRU.out HCI.out HOK.out HJV.out HGR.out HH.out (by rw [HRA.out]; exact h1) (by rw [HRA.out]; exact h2) (by rw [HRA.out]; exact h3) (by rw [HRA.out]; exact h4))
                      go_wp2_with fail
                      refine (actionOf5 _ _ _ _ _ _ h1 h2 h3 h4).mono ?_
                      rintro e w7 ⟨rfl, hb7⟩
                      have HK7 := Lib.hid (HKC.out.below hb7)
                      have HB7 := Lib.hid (HBC.out.trans (hb7.mono (by have := HKC.out.lt; omega)))
                      clear hb7 t0 t1 t2 h1 h2 h3 h4
                      go_wp2_with fail
                      refine (passing_walk HK7.out).mono ?_
                      rintro e w8 ⟨sv8, rfl, hk8, hb8⟩
                      have HK8 := Lib.hid hk8
                      have HB8 := Lib.hid (HB7.out.trans hb8)
                      clear hk8 hb8
                      go_wp2_with fail
                      go_roundg (jtime cs 6 ((qc, qn + 1) :: st))
                      case measure => rw [← HJT.out]; exact HT9.out.2.2
                      case rel => exact ⟨_, _, _, _, 5, HK8.out, HT9.out.1, .inl ⟨rfl, HT9.out.2.1⟩, hvc, rfl, HB8.out⟩
        · obtain rfl : qn = rn := by omega
          have hrn : (cs.getD qc [])[qn]? = none := by rw [HRS.out]; exact List.getElem?_eq_none (by rw [HRN.out]; exact Nat.le_refl _)
          have HT := Lib.hid (turn_end HRU.out HCI.out HOK.out HJV.out hrn)
          clear hrn
          go_wp2_with fail
          refine (leave_any HK4.out).mono ?_
          rintro e w5 ⟨sv5, rfl, hk5, hb5⟩
          have HK5 := Lib.hid hk5
          have HB5 := Lib.hid (show Below (w.heap.size + 1 + 1) W w5 from HB4.out.trans hb5)
          clear hk5 hb5 f1
          go_wp2
          go_roundg (jtime cs 6 st)
          case measure => rw [← HJT.out]; exact HT.out.2.2
          case rel => exact ⟨_, _, _, _, 5, HK5.out, HT.out.1, .inl ⟨rfl, HT.out.2.1⟩, hvs, rfl, HB5.out⟩
      · subst hd
        have HE := Lib.hid (show WthR cs ⟨a, b, c, d⟩ w (.returned (.pointer (some ⟨w.heap.size + 1 + 1 + 1, 0, none⟩))) wr from ⟨_, 1, rfl, hlt, c2, .inl ⟨rfl, by rw [HJ.out]; exact hj⟩, hbw⟩)
        clear hk hbr hbw hok hjt hj hm
        go_wp2
        go_ret
        exact HE.out
      · subst hd
        have HE := Lib.hid (show WthR cs ⟨a, b, c, d⟩ w (.returned (.pointer (some ⟨w.heap.size + 1 + 1 + 1, 0, none⟩))) wr from ⟨_, 2, rfl, hlt, c2, .inr (.inl ⟨rfl, by rw [HJ.out]; exact hj⟩), hbw⟩)
        clear hk hbr hbw hok hjt hj hm
        go_wp2
        go_ret
        exact HE.out
end Go.Proofs.YtfcbbahlhjdefaaDoor
