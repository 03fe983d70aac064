/- Parts of all packets: the program's walk. -/
import Derived.Test.YtajcogpfmpehkaaGreatDoorPaP
import Derived.Test.YtajcogpfmpehkaaGreatDoorLvS
namespace Go.Proofs.YtajcogpfmpehkaaGreatDoor
open Go.RowKit
theorem SpV.highX {X : Nat → Prop} {lo : Nat} {w : World} {v : Value} {xs : List Sp} (h : Sps lo w v xs) (hX : ∀ k, X k → k < lo) : SpV X w v xs := by
  refine ⟨h.mono (Nat.zero_le _), fun q n c e hne hp => ?_⟩
  obtain ⟨a, cap, rfl, h1, h2, hx⟩ := h
  obtain ⟨x, hx0⟩ : ∃ x, xs[0]? = some x := ⟨_, List.getElem?_eq_getElem (List.length_pos_iff.2 hne)⟩
  obtain ⟨b, o, ha, h3, h4, hc⟩ := hx 0 x hx0
  subst ha
  obtain ⟨e1, -, -⟩ := Value.slice.inj e
  cases e1
  have := hX _ hp
  simp only at this
  omega
/-- Boxes are put behind boxes. -/
theorem nx_append {X : Nat → Prop} {lo : Nat} {w : World} {v vx : Value} {bs cs : List Bx} (ty : TypeId) (ho : NX X lo w v bs) (hs : IssX (fun k => some k = v.ownBlock ∨ X k) w vx cs) (hb : bs.length + cs.length ≤ 1000000) (hlo : lo ≤ w.heap.size) :
    ∃ v' w', (Builtin.append_ #[45, 45] ty #[v, vx]).run Tryz.prog w = .ok v' w' ∧ NX X lo w' v' (bs ++ cs) ∧ w.grownBy w' v.ownBlock ∧ ∀ z, v'.ownBlock = some z → v.ownBlock = some z ∨ z = w.heap.size := by
  obtain ⟨i0, hi, hy0, hy1, hy2⟩ := info_parts infoSd
  obtain ⟨vs, g1, g2⟩ := ho
  obtain ⟨ws, k1, k2⟩ := hs
  have e1 := g2.1
  have e2 := k2.1
  have hone : ∀ u ∈ ws.flatMap R4.enc, u.oneCell' = true := fun u hu => by
    obtain ⟨r, hr, hu2⟩ := List.mem_flatMap.1 hu
    obtain ⟨k', hk'⟩ := List.getElem?_of_mem hr
    obtain ⟨bx, hbx⟩ : ∃ bx, cs[k']? = some bx := ⟨_, List.getElem?_eq_getElem (by rw [← e2]; exact (List.getElem?_eq_some_iff.1 hk').1)⟩
    have hall := k2.2 k' r bx hk' hbx
    obtain ⟨F0, G0, H0, F1, G1, H1, F2, G2, H2, F3, G3, H3, h0, h1, h2, h3⟩ := sl4_form (hall.mono (fun _ _ g => g.1))
    simp only [R4.enc, List.mem_cons, List.not_mem_nil, or_false] at hu2
    rcases hu2 with rfl | rfl | rfl | rfl
    · rw [h0]; rfl
    · rw [h1]; rfl
    · rw [h2]; rfl
    · rw [h3]; rfl
  obtain ⟨v', w', hrun, hown, hgr, hat⟩ := own_append_all (sz := 4) (enc := R4.enc) (by omega) (fun _ => rfl) (P := Tryz.prog) 45 ty 77 i0 _ 96 Tryz.underlying45 hi hy0 hy1 hy2 rfl hone g1 (SlFr.at k1) (by omega) (by simp only [maxLen]; omega) hlo
  exact ⟨v', w', hrun, NX.push (H := w.heap.size) k2 (grown_self hgr) hat (Nat.le_refl _) g2 hown, hgr, hat⟩
theorem NX.keepX {X X' : Nat → Prop} {lo : Nat} {w w' : World} {v : Value} {bs : List Bx} (h : NX X lo w v bs) (hz : w.heap.size ≤ w'.heap.size) (hk : ∀ k, k < w.heap.size → some k = v.ownBlock ∨ ¬ X k → w'.heap[k]? = w.heap[k]?) (hX : ∀ k, k < w.heap.size → ¬ X k → ¬ X' k) : NX X' lo w' v bs := by
  obtain ⟨rs, h1, h2⟩ := h
  refine ⟨rs, OwnSl.keepB h1 (fun g g1 _ g3 => hk g g3 (.inl g1.symm)), h2.mono (fun _ _ g => (All2.mono g (fun _ _ q => q.keep hz (fun k k1 k2 => ⟨hk k k1 (.inr (fun e => k2 (.inr e))), fun e => ?_⟩)) : All2 _ _ _))⟩
  rcases e with e | e
  · exact k2 (.inl e)
  · exact hX k k1 (fun e' => k2 (.inr e')) e
/-- The parts in the making: two lists in the cells of block P. -/
structure PT (base P : Nat) (w : World) (out : List Ft) : Prop where
  le : base ≤ P
  lt : P < w.heap.size
  fz : ∀ j, w.frozen? ⟨P, j, none⟩ = false
  vs : ∃ va vd, w.cell? ⟨P, 0, none⟩ = some va ∧ w.cell? ⟨P, 1, none⟩ = some vd ∧ va.ownBlock ≠ some P ∧ vd.ownBlock ≠ some P ∧ (∀ z, va.ownBlock = some z → vd.ownBlock ≠ some z) ∧ NX (fun k => k = P ∨ some k = vd.ownBlock) base w va (psel out true) ∧ NX (fun k => k = P ∨ some k = va.ownBlock) base w vd (psel out false)
theorem NX.lt {X : Nat → Prop} {lo : Nat} {w : World} {v : Value} {bs : List Bx} (h : NX X lo w v bs) : ∀ z, v.ownBlock = some z → lo ≤ z ∧ z < w.heap.size := by
  obtain ⟨rs, h1, _⟩ := h
  exact fun z hz => World.ownsRow.lt h1 z hz
theorem PT.below {base P : Nat} {w w' : World} {out : List Ft} (h : PT base P w out) (hb : Below w.heap.size w w') : PT base P w' out := by
  obtain ⟨va, vd, c0, c1, n0, n1, n2, ha, hd⟩ := h.vs
  exact ⟨h.le, Nat.lt_of_lt_of_le h.lt hb.size, fun j => (hb.frozen (p := ⟨P, j, none⟩) h.lt).trans (h.fz j), va, vd, (hb.cell (p := ⟨P, 0, none⟩) h.lt).trans c0, (hb.cell (p := ⟨P, 1, none⟩) h.lt).trans c1, n0, n1, n2, ha.below hb, hd.below hb⟩
/-- The blocks of the parts lie between base and the world's size. -/
theorem PT.inX {base P : Nat} {w w' : World} {out : List Ft} (h : PT base P w out) (hb : Below w.heap.size w w') : ∀ va vd, w'.cell? ⟨P, 0, none⟩ = some va → w'.cell? ⟨P, 1, none⟩ = some vd → ∀ k, (k = P ∨ some k = va.ownBlock ∨ some k = vd.ownBlock) → base ≤ k ∧ k < w.heap.size := by
  obtain ⟨va, vd, c0, c1, n0, n1, n2, ha, hd⟩ := h.vs
  intro ua ud e0 e1 k hk
  rw [hb.cell (p := ⟨P, 0, none⟩) h.lt, c0] at e0
  rw [hb.cell (p := ⟨P, 1, none⟩) h.lt, c1] at e1
  cases e0; cases e1
  rcases hk with rfl | hk | hk
  · exact ⟨h.le, h.lt⟩
  · exact ha.lt k hk.symm
  · exact hd.lt k hk.symm
theorem PT.start {base : Nat} {w : World} (hb : base ≤ w.heap.size) (ty : TypeId) : PT base w.heap.size (w.alloc (.cells #[.slice none 0 0, .slice none 0 0] ty)) [] :=
  ⟨hb, by simp, fun j => frz_new w _ _ j, _, _, by simp, by simp, fun e => (by cases e), fun e => (by cases e), fun z e => (by cases e), ⟨[], World.ownsRow_nil _ _ _ _, All2.nil⟩, ⟨[], World.ownsRow_nil _ _ _ _, All2.nil⟩⟩
theorem heap_set_other {w : World} {p : Addr} {v : Value} {k : Nat} (h : k ≠ p.block) : (w.setCell p v).heap[k]? = w.heap[k]? := Below.heap_setCell _ _ _ _ h
theorem psel_t (out : List Ft) (live : List Bx) : psel (addp out live true) true = psel out true ++ live ∧ psel (addp out live true) false = psel out false := by
  rw [psel_add, psel_add]; simp
theorem psel_f (out : List Ft) (live : List Bx) : psel (addp out live false) false = psel out false ++ live ∧ psel (addp out live false) true = psel out true := by
  rw [psel_add, psel_add]; simp
theorem addp_len (out : List Ft) (live : List Bx) (a : Bool) : (addp out live a).length = out.length + live.length := by unfold addp; simp
/-- What is appended to the accepted ones, and stored. -/
theorem PT.addT {base P : Nat} {w w' : World} {out : List Ft} {live : List Bx} {va vd v' : Value} (h : PT base P w out) (c0 : w.cell? ⟨P, 0, none⟩ = some va) (c1 : w.cell? ⟨P, 1, none⟩ = some vd) (n0 : va.ownBlock ≠ some P) (n1 : vd.ownBlock ≠ some P) (n2 : ∀ z, va.ownBlock = some z → vd.ownBlock ≠ some z)
    (hd : NX (fun k => k = P ∨ some k = va.ownBlock) base w vd (psel out false)) (hG : NX (fun k => k = P ∨ some k = vd.ownBlock) base w' v' (psel out true ++ live)) (hgr : w.grownBy w' va.ownBlock) (hat : ∀ z, v'.ownBlock = some z → va.ownBlock = some z ∨ z = w.heap.size) :
    PT base P (w'.setCell ⟨P, 0, none⟩ v') (addp out live true) ∧ (w'.setCell ⟨P, 0, none⟩ v').cell? ⟨P, 0, none⟩ = some v' ∧ (w'.setCell ⟨P, 0, none⟩ v').cell? ⟨P, 1, none⟩ = some vd ∧ Below base w (w'.setCell ⟨P, 0, none⟩ v') := by
  have hP := h.lt
  have hsz := hgr.size
  have hblk : ∀ k, k < w.heap.size → some k ≠ va.ownBlock → w'.heap[k]? = w.heap[k]? := fun k k1 k2 => hgr.block k k1 k2
  have hPb : w'.heap[P]? = w.heap[P]? := hblk P hP (fun e => n0 e.symm)
  have d0 : w'.cell? ⟨P, 0, none⟩ = some va := (World.cell?_of_block (a := ⟨P, 0, none⟩) hPb).trans c0
  have d1 : w'.cell? ⟨P, 1, none⟩ = some vd := (World.cell?_of_block (a := ⟨P, 1, none⟩) hPb).trans c1
  have e0 : (w'.setCell ⟨P, 0, none⟩ v').cell? ⟨P, 0, none⟩ = some v' := World.cell?_setCell_same' _ _ _ (by rw [d0]; rfl)
  have e1 : (w'.setCell ⟨P, 0, none⟩ v').cell? ⟨P, 1, none⟩ = some vd := by rw [World.cell?_setCell_other _ _ _ _ (by simp)]; exact d1
  have hv'P : v'.ownBlock ≠ some P := fun e => (hat P e).elim n0 (fun e => by omega)
  refine ⟨⟨h.le, by simp; omega, fun j => ?_, v', vd, e0, e1, hv'P, n1, fun z hz e => ?_, ?_, ?_⟩, e0, e1, ?_⟩
  · rw [World.frozen?_setCell]
    exact (World.frozen?_of_block (a := ⟨P, j, none⟩) hPb).trans (h.fz j)
  · rcases hat z hz with h1 | h1
    · exact n2 z h1 e
    · have := (hd.lt z e).2; omega
  · rw [(psel_t out live).1]
    refine hG.keepX (by simp) (fun k k1 k2 => heap_set_other (fun e => ?_)) (fun _ _ h => h)
    simp only at e
    subst e
    rcases k2 with k2 | k2
    · exact hv'P k2.symm
    · exact k2 (.inl rfl)
  · rw [(psel_t out live).2]
    refine hd.keepX (by simp; omega) (fun k k1 k2 => ?_) (fun k k1 k2 e => ?_)
    · have hne : k ≠ P := fun e => by
        rcases k2 with k2 | k2
        · exact n1 (by rw [← k2, e])
        · exact k2 (.inl e)
      rw [heap_set_other hne]
      refine hblk k k1 (fun e => ?_)
      rcases k2 with k2 | k2
      · exact n2 k e.symm k2.symm
      · exact k2 (.inr e)
    · rcases e with e | e
      · exact k2 (.inl e)
      · rcases hat k e.symm with h1 | h1
        · exact k2 (.inr h1.symm)
        · omega
  · have hlow : ∀ z, va.ownBlock = some z → base ≤ z := fun z hz => by
      obtain ⟨ua, ud, f0, f1, _, _, _, ha, _⟩ := h.vs
      rw [c0] at f0; cases f0
      exact (ha.lt z hz).1
    have hbase : base ≤ w.heap.size := Nat.le_of_lt (Nat.lt_of_le_of_lt h.le hP)
    exact ((Below.refl base w).grown hgr hbase hlow).setCell h.le _
/-- The same for the dropped ones. -/
theorem PT.addF {base P : Nat} {w w' : World} {out : List Ft} {live : List Bx} {va vd v' : Value} (h : PT base P w out) (c0 : w.cell? ⟨P, 0, none⟩ = some va) (c1 : w.cell? ⟨P, 1, none⟩ = some vd) (n0 : va.ownBlock ≠ some P) (n1 : vd.ownBlock ≠ some P) (n2 : ∀ z, va.ownBlock = some z → vd.ownBlock ≠ some z)
    (ha : NX (fun k => k = P ∨ some k = vd.ownBlock) base w va (psel out true)) (hG : NX (fun k => k = P ∨ some k = va.ownBlock) base w' v' (psel out false ++ live)) (hgr : w.grownBy w' vd.ownBlock) (hat : ∀ z, v'.ownBlock = some z → vd.ownBlock = some z ∨ z = w.heap.size) :
    PT base P (w'.setCell ⟨P, 1, none⟩ v') (addp out live false) ∧ (w'.setCell ⟨P, 1, none⟩ v').cell? ⟨P, 0, none⟩ = some va ∧ (w'.setCell ⟨P, 1, none⟩ v').cell? ⟨P, 1, none⟩ = some v' ∧ Below base w (w'.setCell ⟨P, 1, none⟩ v') := by
  have hP := h.lt
  have hsz := hgr.size
  have hblk : ∀ k, k < w.heap.size → some k ≠ vd.ownBlock → w'.heap[k]? = w.heap[k]? := fun k k1 k2 => hgr.block k k1 k2
  have hPb : w'.heap[P]? = w.heap[P]? := hblk P hP (fun e => n1 e.symm)
  have d0 : w'.cell? ⟨P, 0, none⟩ = some va := (World.cell?_of_block (a := ⟨P, 0, none⟩) hPb).trans c0
  have d1 : w'.cell? ⟨P, 1, none⟩ = some vd := (World.cell?_of_block (a := ⟨P, 1, none⟩) hPb).trans c1
  have e1 : (w'.setCell ⟨P, 1, none⟩ v').cell? ⟨P, 1, none⟩ = some v' := World.cell?_setCell_same' _ _ _ (by rw [d1]; rfl)
  have e0 : (w'.setCell ⟨P, 1, none⟩ v').cell? ⟨P, 0, none⟩ = some va := by rw [World.cell?_setCell_other _ _ _ _ (by simp)]; exact d0
  have hv'P : v'.ownBlock ≠ some P := fun e => (hat P e).elim n1 (fun e => by omega)
  refine ⟨⟨h.le, by simp; omega, fun j => ?_, va, v', e0, e1, n0, hv'P, fun z hz e => ?_, ?_, ?_⟩, e0, e1, ?_⟩
  · rw [World.frozen?_setCell]
    exact (World.frozen?_of_block (a := ⟨P, j, none⟩) hPb).trans (h.fz j)
  · rcases hat z e with h1 | h1
    · exact n2 z hz h1
    · have := (ha.lt z hz).2; omega
  · rw [(psel_f out live).2]
    refine ha.keepX (by simp; omega) (fun k k1 k2 => ?_) (fun k k1 k2 e => ?_)
    · have hne : k ≠ P := fun e => by
        rcases k2 with k2 | k2
        · exact n0 (by rw [← k2, e])
        · exact k2 (.inl e)
      rw [heap_set_other hne]
      refine hblk k k1 (fun e => ?_)
      rcases k2 with k2 | k2
      · exact n2 k k2.symm e.symm
      · exact k2 (.inr e)
    · rcases e with e | e
      · exact k2 (.inl e)
      · rcases hat k e.symm with h1 | h1
        · exact k2 (.inr h1.symm)
        · omega
  · rw [(psel_f out live).1]
    refine hG.keepX (by simp) (fun k k1 k2 => heap_set_other (fun e => ?_)) (fun _ _ h => h)
    simp only at e
    subst e
    rcases k2 with k2 | k2
    · exact hv'P k2.symm
    · exact k2 (.inl rfl)
  · have hlow : ∀ z, vd.ownBlock = some z → base ≤ z := fun z hz => by
      obtain ⟨ua, ud, f0, f1, _, _, _, _, hd⟩ := h.vs
      rw [c1] at f1; cases f1
      exact (hd.lt z hz).1
    have hbase : base ≤ w.heap.size := Nat.le_of_lt (Nat.lt_of_le_of_lt h.le hP)
    exact ((Below.refl base w).grown hgr hbase hlow).setCell h.le _
set_option maxHeartbeats 2000000 in
set_option maxRecDepth 100000 in
theorem add_any {X : Nat → Prop} {base P : Nat} {out : List Ft} {live : List Bx} {z : Value} (a : Bool) (w : World) (hp : PT base P w out) (hx : IssX X w z live) (hX : ∀ va vd, w.cell? ⟨P, 0, none⟩ = some va → w.cell? ⟨P, 1, none⟩ = some vd → ∀ k, (k = P ∨ some k = va.ownBlock ∨ some k = vd.ownBlock) → X k) (hl : out.length ≤ 400) (hl2 : live.length ≤ 400) :
    Calls Tryz.prog 48 #[.pointer (some ⟨P, 0, none⟩), z, .bool a] w fun e w' => e = .returned (.bool (decide ((addp out live a).length ≤ 400))) ∧ PT base P w' (addp out live a) ∧ Below base w w' := by
  obtain ⟨va, vd, c0, c1, n0, n1, n2, ha, hd⟩ := hp.vs
  have hXv := hX va vd c0 c1
  have hfz := hp.fz
  have hlt := hp.lt
  have hbase : base ≤ w.heap.size := Nat.le_of_lt (Nat.lt_of_le_of_lt hp.le hp.lt)
  obtain ⟨aa, ac, hva⟩ := ha.form
  obtain ⟨da, dc, hvd⟩ := hd.form
  have hb1 := psel_len out true
  have hb2 := psel_len out false
  have hsum := psel_both out
  have hal := addp_len out live a
  obtain ⟨xa, xc, rfl, -, -⟩ := hx.form
  cases a
  · obtain ⟨v', w', hrun, hG, hgr, hat⟩ := nx_append 45 hd (hx.sub (fun k hk => hXv k (by rcases hk with h | h | h <;> simp [h]))) (by omega) hbase
    obtain ⟨hPT, e0, e1, hB⟩ := hp.addF c0 c1 n0 n1 n2 ha hG hgr hat
    obtain ⟨va2, vc2, hv'⟩ := hG.form
    have hPb : w'.heap[P]? = w.heap[P]? := hgr.block P hlt (fun e => n1 e.symm)
    have d1 : (w'.cell? ⟨P, 1, none⟩) = some vd := (World.cell?_of_block (a := ⟨P, 1, none⟩) hPb).trans c1
    have f1 : w'.frozen? ⟨P, 1, none⟩ = false := (World.frozen?_of_block (a := ⟨P, 1, none⟩) hPb).trans (hfz 1)
    have HPT := Lib.hid hPT
    have HB := Lib.hid hB
    have hm1 : (psel out true).length ≤ 400 ∧ (psel out false ++ live).length ≤ 800 := by rw [List.length_append]; omega
    have HC := Lib.hid (show (psel out true).length + (psel out false ++ live).length = (addp out live false).length by rw [hal, List.length_append]; omega)
    subst hva hvd hv'
    generalize (psel out false ++ live).length = m1 at *
    generalize (psel out true).length = m0 at *
    generalize (psel out false).length = m2 at *
    clear ha hd hG hgr hat hPT hB hX hXv hx hp hsum hal hb1 hb2
    go_enter Tryz.func48, Tryz.ntmps48
    go_wp2_with (at_builtin; refine wpList_append_run rfl _ _ 45 rfl rfl rfl hrun ?_)
    have hPl := HPT.out.lt
    have hwr : IntKind.i64.wrap ((m0 : Int) + m1) = (m0 : Int) + m1 := IntWalk.i64_in _ (by omega)
    have hBs := HB.out.size
    have hBs2 := hBs
    simp only [World.size_setCell] at hBs2
    go_wp2_with fail
    refine wp_region_over (by kernel_rfl) (by kernel_rfl) (fun ov => ?_); have ov0 := fun x => ov x (P) (by (try simp) <;> omega); clear ov; (repeat (go_big_quiet_step (first | fail))); refine wpQuiet_nil ?_; intro w9 hw9; have hb_w9 := below_over hw9; clear hw9 ov0
    go_wp2
    go_ret
    refine ⟨ret_bool ?_, HPT.out.below hb_w9, HB.out.trans (hb_w9.mono (by omega))⟩
    rw [← HC.out]
    have hcast : ∀ x y : Nat, ((x : Int) + (y : Int) ≤ 400) = (x + y ≤ 400) := fun x y => by apply propext; omega
    simp [hcast]
  · obtain ⟨v', w', hrun, hG, hgr, hat⟩ := nx_append 45 ha (hx.sub (fun k hk => hXv k (by rcases hk with h | h | h <;> simp [h]))) (by omega) hbase
    obtain ⟨hPT, e0, e1, hB⟩ := hp.addT c0 c1 n0 n1 n2 hd hG hgr hat
    obtain ⟨va2, vc2, hv'⟩ := hG.form
    have hPb : w'.heap[P]? = w.heap[P]? := hgr.block P hlt (fun e => n0 e.symm)
    have d0 : (w'.cell? ⟨P, 0, none⟩) = some va := (World.cell?_of_block (a := ⟨P, 0, none⟩) hPb).trans c0
    have f0 : w'.frozen? ⟨P, 0, none⟩ = false := (World.frozen?_of_block (a := ⟨P, 0, none⟩) hPb).trans (hfz 0)
    have HPT := Lib.hid hPT
    have HB := Lib.hid hB
    have hm1 : (psel out true ++ live).length ≤ 800 ∧ (psel out false).length ≤ 400 := by rw [List.length_append]; omega
    have HC := Lib.hid (show (psel out true ++ live).length + (psel out false).length = (addp out live true).length by rw [hal, List.length_append]; omega)
    subst hva hvd hv'
    generalize (psel out true ++ live).length = m1 at *
    generalize (psel out true).length = m0 at *
    generalize (psel out false).length = m2 at *
    clear ha hd hG hgr hat hPT hB hX hXv hx hp hsum hal hb1 hb2
    go_enter Tryz.func48, Tryz.ntmps48
    go_wp2_with (at_builtin; refine wpList_append_run rfl _ _ 45 rfl rfl rfl hrun ?_)
    have hPl := HPT.out.lt
    have hwr : IntKind.i64.wrap ((m1 : Int) + m2) = (m1 : Int) + m2 := IntWalk.i64_in _ (by omega)
    have hBs := HB.out.size
    have hBs2 := hBs
    simp only [World.size_setCell] at hBs2
    go_wp2_with fail
    refine wp_region_over (by kernel_rfl) (by kernel_rfl) (fun ov => ?_); have ov0 := fun x => ov x (P) (by (try simp) <;> omega); clear ov; (repeat (go_big_quiet_step (first | fail))); refine wpQuiet_nil ?_; intro w9 hw9; have hb_w9 := below_over hw9; clear hw9 ov0
    go_wp2
    go_ret
    refine ⟨ret_bool ?_, HPT.out.below hb_w9, HB.out.trans (hb_w9.mono (by omega))⟩
    rw [← HC.out]
    have hcast : ∀ x y : Nat, ((x : Int) + (y : Int) ≤ 400) = (x + y ≤ 400) := fun x y => by apply propext; omega
    simp [hcast]
end Go.Proofs.YtajcogpfmpehkaaGreatDoor
