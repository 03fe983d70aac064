/- Parts of all packets: the program's walk. -/
import Derived.Test.YtfcbbahlhjdefaaGreatDoorRgCL
import Derived.Test.YtfcbbahlhjdefaaGreatDoorPaP
import Derived.Deep.DeepCutAuto
import Derived.Test.YtfcbbahlhjdefaaGreatDoorRsC
import Derived.Test.YtfcbbahlhjdefaaGreatDoorRgX
import Derived.Test.YtfcbbahlhjdefaaGreatDoorFnX
import Derived.Test.YtfcbbahlhjdefaaGreatDoorDxBT
/- Live parts of rules: both walks; what a region leaves (reference). -/
namespace Go.Proofs.YtfcbbahlhjdefaaGreatDoor
open Go.RowKit
theorem IfsQ.kept {X : Nat → Prop} {lo : Nat} {w w' : World} {v : Value} {fs : List Ft} (h : IfsQ (SpV X w) lo w v fs) (hb : Below w.heap.size w w') : IfsQ (SpV X w') lo w' v fs :=
  let ⟨rs, h1, h2⟩ := h
  ⟨rs, h1.below hb, h2.mono (fun _ _ g => ⟨g.1.mono (fun _ _ q => q.below hb), g.2⟩)⟩
theorem Ifs.x {lo : Nat} {w : World} {v : Value} {fs : List Ft} (h : Ifs lo w v fs) : IfsQ (SpV (fun _ => False) w) lo w v fs :=
  let ⟨rs, h1, h2⟩ := h
  ⟨rs, h1, h2.mono (fun _ _ g => ⟨g.1.mono (fun _ _ q => SpV.no q), g.2⟩)⟩
theorem Ifs.old {X : Nat → Prop} {lo : Nat} {w0 w : World} {v : Value} {fs : List Ft} (h : Ifs lo w0 v fs) (hb : Below w0.heap.size w0 w) (hX : ∀ k, X k → w0.heap.size ≤ k) : IfsQ (SpV X w) lo w v fs :=
  let ⟨rs, h1, h2⟩ := h
  ⟨rs, h1.below hb, h2.mono (fun _ _ g => ⟨g.1.mono (fun _ _ q => SpV.old q hb hX), g.2⟩)⟩
def ROk (bs : List Bx) (k : Nat) : Prop := ∀ (i : Nat) b, i < k → bs[i]? = some b → bvalid b = true
theorem ROk.step {bs : List Bx} {k : Nat} {b : Bx} (h : ROk bs k) (hx : bs[k]? = some b) (hv : bvalid b = true) : ROk bs (k + 1) := fun i c hi hc => by
  by_cases e : i = k
  · subst e; rw [hx] at hc; cases hc; exact hv
  · exact h i c (by omega) hc
theorem rvalid_yes {bs : List Bx} (h : ROk bs bs.length) : rvalid bs = decide (bs.length ≤ 400) := by
  unfold rvalid
  have : bs.all bvalid = true := by
    rw [List.all_eq_true]
    intro b hb
    obtain ⟨i, hi⟩ := List.getElem?_of_mem hb
    exact h i b (List.getElem?_eq_some_iff.1 hi).1 hi
  rw [this, Bool.and_true]
theorem rvalid_no {bs : List Bx} {k : Nat} {b : Bx} (hx : bs[k]? = some b) (hv : bvalid b = false) : rvalid bs = false := by
  rw [← Bool.not_eq_true]
  intro h
  rw [(rvalid_all h).2 b (List.mem_of_getElem? hx)] at hv
  cases hv
set_option maxHeartbeats 1000000 in
theorem specRV_any {lo : Nat} (fs : List Bx) (v : Value) (w : World) (hs : Bxs lo w v fs) :
    Calls Tryz.prog 71 #[v] w fun e w' => e = .returned (.bool (rvalid fs)) ∧ Below w.heap.size w w' := by
  obtain ⟨a, cap, rfl, hlc, hcm⟩ := hs.form
  unfold maxLen at hcm
  generalize hn : fs.length = n at *
  have HN := Lib.hid hn
  clear hn
  go_enter Tryz.func71, Tryz.ntmps71
  go_wp2_with fail
  go_loopw [3] (fun i wr => ∃ k : Nat, k ≤ n ∧ i = .int .i64 k ∧ Hid (ROk fs k) ∧ Below w.heap.size w wr) (fun i _ => n - (intOf i).toNat)
  case atStart => exact ⟨0, by omega, rfl, Lib.hid (fun i b h => by omega), Below.refl _ _⟩
  case round =>
    obtain ⟨k, hk, rfl, HG, hbr⟩ := hrel
    have hzr := hbr.size
    have hs2 := hs.below hbr
    by_cases hlt : k < n
    · have i1 : (k : Int) < (n : Int) := by omega
      have i2 : (0 : Int) ≤ (k : Int) := by omega
      obtain ⟨f, hx⟩ : ∃ f, fs[k]? = some f := ⟨_, List.getElem?_eq_getElem (by rw [HN.out]; exact hlt)⟩
      obtain ⟨b', o, sv, rfl, hbl, c0, hsv⟩ := hs2.at hx
      have HX := Lib.hid hx
      have HSV := Lib.hid hsv
      clear hx hsv
      obtain ⟨r, hv⟩ : ∃ r, bvalid f = r := ⟨_, rfl⟩
      go_wp2_with fail
      refine (specBV_b HSV.out hv).mono ?_
      rintro e w9 ⟨rfl, hb9⟩
      have hb10 : Below w.heap.size w w9 := hbr.trans (hb9.mono hzr)
      clear hb9
      cases r
      · have HE := Lib.hid (rvalid_no HX.out hv)
        go_wp2
        go_ret
        exact ⟨ret_bool HE.out.symm, hb10⟩
      · have HE := Lib.hid (HG.out.step HX.out hv)
        go_wp2
        go_roundw
        case rel => exact ⟨k + 1, by omega, by go_num, HE, hb10⟩
        case measure => simp [intOf]; omega
    · have hkn : k = n := by omega
      have HE := Lib.hid (show rvalid fs = decide (n ≤ 400) by
        have hG := HG.out
        rw [hkn, ← HN.out] at hG
        rw [rvalid_yes hG, HN.out])
      go_wp2
      go_ret
      exact ⟨ret_bool (by rw [HE.out]; exact decide_eq_decide.2 (by omega)), hbr⟩
theorem specRV_b {lo : Nat} {fs : List Bx} {v : Value} {w : World} {r : Bool} (hs : Bxs lo w v fs) (h : rvalid fs = r) :
    Calls Tryz.prog 71 #[v] w fun e w' => e = .returned (.bool r) ∧ Below w.heap.size w w' := by
  subst h
  exact specRV_any fs v w hs
/-- An append to a list of the call's own, of whatever list. -/
theorem own_append_all {α : Type} {sz : Nat} {enc : α → List Value} (hsz : 0 < sz) (henc : ∀ x, (enc x).length = sz) {P : Program} {lo : Nat} {w : World} (t ty e : TypeId) (i : TypeInfo) (z : Value) (bytes : Nat) (ht : P.underlying t = some (.slice e)) (hi : P.info? e = some i) (hz : i.zero = some z)
    (hsize : i.size = sz) (hby : i.bytes = bytes) (hzs : z.cells.size = sz) {v vx : Value} {ys zs : List α} (hone : ∀ u ∈ zs.flatMap enc, u.oneCell' = true) (ho : OwnSl lo e sz enc w v ys)
    (hs : SlAt sz enc w vx zs) (hbytes : (ys.length + zs.length) * bytes ≤ 140737488355328) (hmax : ys.length + zs.length ≤ maxLen) (hlo : lo ≤ w.heap.size) :
    ∃ v' w', (Builtin.append_ #[t, t] ty #[v, vx]).run P w = .ok v' w' ∧ OwnSl lo e sz enc w' v' (ys ++ zs) ∧ w.grownBy w' v.ownBlock ∧ ∀ x, v'.ownBlock = some x → v.ownBlock = some x ∨ x = w.heap.size := by
  obtain ⟨a, cap, rfl, h1, h2, hx⟩ := id hs
  by_cases hn : zs = []
  · subst hn
    rcases ho.form with ⟨rfl, rfl⟩ | ⟨g, cp, rfl, _, _, hcp, _, _⟩
    · exact ⟨_, w, run_append_nothing t ty e i ht hi none a 0 0 (Nat.le_refl _) cap (fun _ => ⟨rfl, rfl⟩), by simpa using ho, World.grownBy.refl _ _, fun x hx => .inl hx⟩
    · exact ⟨_, w, run_append_nothing t ty e i ht hi (some ⟨g, 0, none⟩) a _ _ hcp cap (fun h => by cases h), by simpa using ho, World.grownBy.refl _ _, fun x hx => .inl hx⟩
  · have hlen : 0 < zs.length := List.length_pos_iff.2 hn
    obtain ⟨b, o, ha, _, _⟩ := hx 0 zs[0] (List.getElem?_eq_getElem hlen)
    subst ha
    obtain ⟨g5, cap5, w5, hrun, hown5, hgr5, hat5, _⟩ := run_append_lies (P := P) (w := w) t ty lo e i z sz bytes ht hi hz hsize hby hzs hsz v ys.length _ ho ⟨b, o, none⟩ zs.length cap (zs.flatMap enc) (length_flatMap henc zs) (hs.flat hsz henc) hone hlen hmax hbytes hlo w.heap.size rfl
    refine ⟨_, w5, hrun, ?_, hgr5, fun x hx => by cases hx; exact hat5⟩
    unfold OwnSl
    rw [List.length_append, List.flatMap_append]
    exact hown5
theorem grown_self {w w2 : World} {r : Option Nat} (h : w.grownBy w2 r) : w.heap.size ≤ w2.heap.size ∧ ∀ k, k < w.heap.size → some k ≠ r → w2.heap[k]? = w.heap[k]? := ⟨h.size, h.block⟩
/-- Boxes whose sets lie in no block of X (the reference's form). -/
def BxsV (X : Nat → Prop) (w : World) (v : Value) (bs : List Bx) : Prop := ∃ vs, SlV X 1 enc1 w v vs ∧ All2 (RwV X w) vs bs
theorem BxsV.bxs {X : Nat → Prop} {w : World} {v : Value} {bs : List Bx} (h : BxsV X w v bs) : Bxs 0 w v bs :=
  let ⟨vs, h1, h2⟩ := h
  ⟨vs, h1.1, h2.mono (fun _ _ g => g.rws)⟩
theorem BxsV.keep {X X' : Nat → Prop} {w w' : World} {v : Value} {bs : List Bx} (h : BxsV X w v bs) (hz : w.heap.size ≤ w'.heap.size) (hk : ∀ k, k < w.heap.size → ¬ X k → w'.heap[k]? = w.heap[k]? ∧ ¬ X' k) : BxsV X' w' v bs :=
  let ⟨vs, h1, h2⟩ := h
  ⟨vs, h1.keep hz hk, h2.mono (fun _ _ g => g.keep hz hk)⟩
theorem BxsV.below {X : Nat → Prop} {w w' : World} {v : Value} {bs : List Bx} (h : BxsV X w v bs) (hb : Below w.heap.size w w') : BxsV X w' v bs := h.keep hb.size (fun k k1 k2 => ⟨hb.block k k1, k2⟩)
theorem BxsV.form {X : Nat → Prop} {w : World} {v : Value} {bs : List Bx} (h : BxsV X w v bs) : ∃ a cap, v = .slice a bs.length cap ∧ bs.length ≤ cap ∧ cap ≤ maxLen := h.bxs.form
theorem BxsV.at {X : Nat → Prop} {w : World} {a : Option Addr} {n cap : Nat} {bs : List Bx} (h : BxsV X w (.slice a n cap) bs) {k : Nat} {f : Bx} (hk : bs[k]? = some f) :
    ∃ b o sv, a = some ⟨b, o, none⟩ ∧ b < w.heap.size ∧ w.cell? ⟨b, o + k, none⟩ = some sv ∧ RwV X w sv f := by
  obtain ⟨rs, ⟨⟨a', cap', he, _, _, hx⟩, _⟩, h2⟩ := h
  obtain ⟨rfl, _, _⟩ := Value.slice.inj he
  obtain ⟨r, hr, hs⟩ := h2.left hk
  obtain ⟨b, o, ha, _, hb, hc⟩ := hx k r hr
  exact ⟨b, o, r, ha, hb, by simpa using hc 0 _ rfl, hs⟩
theorem BxX.bv {X : Nat → Prop} {lo : Nat} {w : World} {v : Value} {bs : List Bx} (h : BxX X lo w v bs) (hX : ∀ k, X k → k < lo) : BxsV X w v bs := by
  obtain ⟨vs, h1, h2⟩ := h
  exact ⟨vs, SlV.high (OwnSl.fr (sz := 1) (enc := enc1) (fun _ => rfl) h1) hX, h2.mono (fun _ _ g => g.sub (fun k hk => .inr hk))⟩
theorem RwV.older {P X : Nat → Prop} {w0 w : World} {v : Value} {b : Bx} (h : RwV X w0 v b) (hb : Below w0.heap.size w0 w) (hP : ∀ k, P k → w0.heap.size ≤ k ∨ X k) : RwV P w v b :=
  h.keep hb.size (fun k k1 k2 => ⟨hb.block k k1, fun hk => (hP k hk).elim (fun h => by omega) k2⟩)
theorem RwV.all {lo : Nat} {w : World} {v : Value} {b : Bx} (h : Rws lo w v b) : RwV (fun _ => False) w v b := RwV.old h (Below.refl _ _) (fun _ h => h.elim)
end Go.Proofs.YtfcbbahlhjdefaaGreatDoor
namespace Go.Proofs.YtfcbbahlhjdefaaGreatDoor
open Go.RowKit
theorem SpV.highX {X : Nat → Prop} {lo : Nat} {w : World} {v : Value} {xs : List Sp} (h : Sps lo w v xs) (hX : ∀ k, X k → k < lo) : SpV X w v xs := by
  refine ⟨h.mono (Nat.zero_le _), fun q n c e hne hp => ?_⟩
  obtain ⟨a, cap, rfl, h1, h2, hx⟩ := h
  obtain ⟨x, hx0⟩ : ∃ x, xs[0]? = some x := ⟨_, List.getElem?_eq_getElem (List.length_pos_iff.2 hne)⟩
  obtain ⟨b, o, ha, h3, h4, hc⟩ := hx 0 x hx0
  subst ha
  obtain ⟨e1, -, -⟩ := Value.slice.inj e
  cases e1
  have := hX _ hp
  simp only at this
  omega
/-- Boxes are put behind boxes. -/
theorem nx_append {X : Nat → Prop} {lo : Nat} {w : World} {v vx : Value} {bs cs : List Bx} (ty : TypeId) (ho : NX X lo w v bs) (hs : IssX (fun k => some k = v.ownBlock ∨ X k) w vx cs) (hb : bs.length + cs.length ≤ 1000000) (hlo : lo ≤ w.heap.size) :
    ∃ v' w', (Builtin.append_ #[78, 78] ty #[v, vx]).run Tryz.prog w = .ok v' w' ∧ NX X lo w' v' (bs ++ cs) ∧ w.grownBy w' v.ownBlock ∧ ∀ z, v'.ownBlock = some z → v.ownBlock = some z ∨ z = w.heap.size := by
  obtain ⟨i0, hi, hy0, hy1, hy2⟩ := info_parts infoSd
  obtain ⟨vs, g1, g2⟩ := ho
  obtain ⟨ws, k1, k2⟩ := hs
  have e1 := g2.1
  have e2 := k2.1
  have hone : ∀ u ∈ ws.flatMap R4.enc, u.oneCell' = true := fun u hu => by
    obtain ⟨r, hr, hu2⟩ := List.mem_flatMap.1 hu
    obtain ⟨k', hk'⟩ := List.getElem?_of_mem hr
    obtain ⟨bx, hbx⟩ : ∃ bx, cs[k']? = some bx := ⟨_, List.getElem?_eq_getElem (by rw [← e2]; exact (List.getElem?_eq_some_iff.1 hk').1)⟩
    have hall := k2.2 k' r bx hk' hbx
    obtain ⟨F0, G0, H0, F1, G1, H1, F2, G2, H2, F3, G3, H3, h0, h1, h2, h3⟩ := sl4_form (hall.mono (fun _ _ g => g.1))
    simp only [R4.enc, List.mem_cons, List.not_mem_nil, or_false] at hu2
    rcases hu2 with rfl | rfl | rfl | rfl
    · rw [h0]; rfl
    · rw [h1]; rfl
    · rw [h2]; rfl
    · rw [h3]; rfl
  obtain ⟨v', w', hrun, hown, hgr, hat⟩ := own_append_all (sz := 4) (enc := R4.enc) (by omega) (fun _ => rfl) (P := Tryz.prog) 78 ty 83 i0 _ 96 Tryz.underlying78 hi hy0 hy1 hy2 rfl hone g1 (SlFr.at k1) (by omega) (by simp only [maxLen]; omega) hlo
  exact ⟨v', w', hrun, NX.push (H := w.heap.size) k2 (grown_self hgr) hat (Nat.le_refl _) g2 hown, hgr, hat⟩
theorem NX.keepX {X X' : Nat → Prop} {lo : Nat} {w w' : World} {v : Value} {bs : List Bx} (h : NX X lo w v bs) (hz : w.heap.size ≤ w'.heap.size) (hk : ∀ k, k < w.heap.size → some k = v.ownBlock ∨ ¬ X k → w'.heap[k]? = w.heap[k]?) (hX : ∀ k, k < w.heap.size → ¬ X k → ¬ X' k) : NX X' lo w' v bs := by
  obtain ⟨rs, h1, h2⟩ := h
  refine ⟨rs, OwnSl.keepB h1 (fun g g1 _ g3 => hk g g3 (.inl g1.symm)), h2.mono (fun _ _ g => (All2.mono g (fun _ _ q => q.keep hz (fun k k1 k2 => ⟨hk k k1 (.inr (fun e => k2 (.inr e))), fun e => ?_⟩)) : All2 _ _ _))⟩
  rcases e with e | e
  · exact k2 (.inl e)
  · exact hX k k1 (fun e' => k2 (.inr e')) e
/-- The parts in the making: two lists in the cells of block P. -/
structure PT (base P : Nat) (w : World) (out : List Ft) : Prop where
  le : base ≤ P
  lt : P < w.heap.size
  fz : ∀ j, w.frozen? ⟨P, j, none⟩ = false
  vs : ∃ va vd, w.cell? ⟨P, 0, none⟩ = some va ∧ w.cell? ⟨P, 1, none⟩ = some vd ∧ va.ownBlock ≠ some P ∧ vd.ownBlock ≠ some P ∧ (∀ z, va.ownBlock = some z → vd.ownBlock ≠ some z) ∧ NX (fun k => k = P ∨ some k = vd.ownBlock) base w va (psel out true) ∧ NX (fun k => k = P ∨ some k = va.ownBlock) base w vd (psel out false)
theorem NX.lt {X : Nat → Prop} {lo : Nat} {w : World} {v : Value} {bs : List Bx} (h : NX X lo w v bs) : ∀ z, v.ownBlock = some z → lo ≤ z ∧ z < w.heap.size := by
  obtain ⟨rs, h1, _⟩ := h
  exact fun z hz => World.ownsRow.lt h1 z hz
theorem PT.below {base P : Nat} {w w' : World} {out : List Ft} (h : PT base P w out) (hb : Below w.heap.size w w') : PT base P w' out := by
  obtain ⟨va, vd, c0, c1, n0, n1, n2, ha, hd⟩ := h.vs
  exact ⟨h.le, Nat.lt_of_lt_of_le h.lt hb.size, fun j => (hb.frozen (p := ⟨P, j, none⟩) h.lt).trans (h.fz j), va, vd, (hb.cell (p := ⟨P, 0, none⟩) h.lt).trans c0, (hb.cell (p := ⟨P, 1, none⟩) h.lt).trans c1, n0, n1, n2, ha.below hb, hd.below hb⟩
end Go.Proofs.YtfcbbahlhjdefaaGreatDoor
