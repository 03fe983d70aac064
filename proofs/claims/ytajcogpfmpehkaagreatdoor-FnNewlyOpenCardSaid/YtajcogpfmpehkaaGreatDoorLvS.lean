/- Live parts of rules: both walks; what a region leaves (reference). -/
import Derived.Test.YtajcogpfmpehkaaGreatDoorRgCL
import Derived.Test.YtajcogpfmpehkaaGreatDoorLvP
import Derived.Deep.DeepCutAuto
import Derived.Test.YtajcogpfmpehkaaGreatDoorRsC
import Derived.Test.YtajcogpfmpehkaaGreatDoorRgX
import Derived.Test.YtajcogpfmpehkaaGreatDoorFnX
import Derived.Test.YtajcogpfmpehkaaGreatDoorFtW
namespace Go.Proofs.YtajcogpfmpehkaaGreatDoor
open Go.RowKit
theorem Ifs.takeS {lo : Nat} {w : World} {a : Option Addr} {n cap : Nat} {fs : List Ft} (h : Ifs lo w (.slice a n cap) fs) {k : Nat} (hk : k ≤ n) : Ifs 0 w (.slice a k cap) (fs.take k) := by
  obtain ⟨rs, h1, h2⟩ := h
  refine ⟨rs.take k, SlFr.of (SlAt.take (SlFr.at h1) hk), ?_⟩
  refine ⟨by rw [List.length_take, List.length_take, h2.1], fun j x y hx hy => ?_⟩
  obtain ⟨h3, hx⟩ := get_take hx
  obtain ⟨_, hy⟩ := get_take hy
  obtain ⟨g1, g2⟩ := h2.2 j x y hx hy
  exact ⟨g1.mono (fun _ _ g => g.mono (Nat.zero_le _)), g2⟩
theorem IfsQ.takeS {Q : Value → List Sp → Prop} {lo : Nat} {w : World} {a : Option Addr} {n cap : Nat} {fs : List Ft} (h : IfsQ Q lo w (.slice a n cap) fs) {k : Nat} (hk : k ≤ n) : IfsQ Q 0 w (.slice a k cap) (fs.take k) := by
  obtain ⟨rs, h1, h2⟩ := h
  refine ⟨rs.take k, SlFr.of (SlAt.take (SlFr.at h1) hk), ?_⟩
  refine ⟨by rw [List.length_take, List.length_take, h2.1], fun j x y hx hy => ?_⟩
  obtain ⟨h3, hx⟩ := get_take hx
  obtain ⟨_, hy⟩ := get_take hy
  exact h2.2 j x y hx hy
theorem IfsQ.kept {X : Nat → Prop} {lo : Nat} {w w' : World} {v : Value} {fs : List Ft} (h : IfsQ (SpV X w) lo w v fs) (hb : Below w.heap.size w w') : IfsQ (SpV X w') lo w' v fs :=
  let ⟨rs, h1, h2⟩ := h
  ⟨rs, h1.below hb, h2.mono (fun _ _ g => ⟨g.1.mono (fun _ _ q => q.below hb), g.2⟩)⟩
theorem QSl.spv (X : Nat → Prop) (w : World) : QSl (SpV X w) := fun v xs h => QSl.sps 0 w v xs h.1
theorem Ifs.x {lo : Nat} {w : World} {v : Value} {fs : List Ft} (h : Ifs lo w v fs) : IfsQ (SpV (fun _ => False) w) lo w v fs :=
  let ⟨rs, h1, h2⟩ := h
  ⟨rs, h1, h2.mono (fun _ _ g => ⟨g.1.mono (fun _ _ q => SpV.no q), g.2⟩)⟩
theorem Ifs.old {X : Nat → Prop} {lo : Nat} {w0 w : World} {v : Value} {fs : List Ft} (h : Ifs lo w0 v fs) (hb : Below w0.heap.size w0 w) (hX : ∀ k, X k → w0.heap.size ≤ k) : IfsQ (SpV X w) lo w v fs :=
  let ⟨rs, h1, h2⟩ := h
  ⟨rs, h1.below hb, h2.mono (fun _ _ g => ⟨g.1.mono (fun _ _ q => SpV.old q hb hX), g.2⟩)⟩
theorem wheresX_any {X : Nat → Prop} {lo : Nat} (fs : List Ft) (v : Value) (w : World) (hs : IfsQ (SpV X w) lo w v fs) (hl : fs.length ≤ 1000000) :
    Calls Tryz.prog 36 #[v] w fun e w' => ∃ v', e = .returned v' ∧ IssX X w' v' (fboxes fs) ∧ Below w.heap.size w w' := by
  refine (wheresQ_any (QSl.spv X w) fs v w hs hl).mono ?_
  rintro e w' ⟨v', rfl, ⟨rs, h1, h2⟩, hb⟩
  exact ⟨v', rfl, ⟨rs, h1, h2.mono (fun r b h => (All2.mono h (fun _ _ h => h.below hb) : All2 _ _ _))⟩, hb⟩
theorem less_r {X : Nat → Prop} {b : Bx} {xs : List Bx} {v0 v1 v2 v3 v : Value} {w : World} {R : Option (List Bx)} (h : blessB b xs = R) (ht : Tab w) (hXX : ∀ k, X k → k < w.heap.size) (hs : All2 (SpV X w) [v0, v1, v2, v3] b) (hr : IssX X w v xs) (hb : bvalid b = true) (hx : ∀ z ∈ xs, bvalid z = true) :
    Calls Tryz.prog 50 #[.agg #[v0, v1, v2, v3], v] w fun e w' => ∃ z, e = .returned (.tuple #[z, .bool R.isSome]) ∧ (∀ ys, R = some ys → IssX X w' z ys) ∧ Below w.heap.size w w' := by
  subst h
  exact lessX_any b xs v0 v1 v2 v3 v w ht hXX hs hr hb (fun k x hk => hx x (List.mem_of_getElem? hk))
set_option maxHeartbeats 2000000 in
set_option maxRecDepth 100000 in
theorem liveX_any {X : Nat → Prop} {lo : Nat} (fs : List Ft) (v : Value) (k : Nat) (w : World) (ht : Tab w) (hXX : ∀ k, X k → k < w.heap.size) (hs : IfsQ (SpV X w) lo w v fs) (hv : fvalid fs = true) (hk : k < fs.length) :
    Calls Tryz.prog 47 #[v, .int .i64 (k : Int)] w fun e w' => ∃ z, e = .returned (.tuple #[z, .bool (livek fs k).isSome]) ∧ (∀ ys, livek fs k = some ys → IssX X w' z ys) ∧ Below w.heap.size w w' := by
  obtain ⟨a, cap, rfl, hlc, hcm⟩ := hs.form
  unfold maxLen at hcm
  generalize hn : fs.length = n at *
  have HN := Lib.hid hn
  obtain ⟨f, hx⟩ : ∃ f, fs[k]? = some f := ⟨_, List.getElem?_eq_getElem (by omega)⟩
  obtain ⟨b, o, v0, v1, v2, v3, rfl, hbl, c0, c1, c2, c3, c4, hss⟩ := hs.at hx
  have i1 : (k : Int) < (n : Int) := by omega
  have i2 : (0 : Int) ≤ (k : Int) := by omega
  have i3 : (k : Int) ≤ (cap : Int) := by omega
  have HS := Lib.hid hs
  have HT := Lib.hid (IfsQ.takeS hs (Nat.le_of_lt hk))
  have HSS := Lib.hid hss
  have HX := Lib.hid hx
  have HV := Lib.hid hv
  obtain ⟨R, hR⟩ : ∃ R, livek fs k = R := ⟨_, rfl⟩
  have HR := Lib.hid (show blessB f.box (fboxes (fs.take k)) = R by rw [← hR]; unfold livek; rw [hx])
  rw [hR]
  have HL := Lib.hid (show (fs.take k).length ≤ 1000000 by have := fvalid_60 hv; rw [List.length_take]; omega)
  clear hs hss hx hn hR
  go_enter Tryz.func47, Tryz.ntmps47
  go_wp2_with fail
  (refine wp_region_bel (W := w) [BIs (.slice (some ⟨b, o, none⟩) n cap), BIs (.int .i64 (k : Int)), BIs (.pointer (some ⟨b, o + k * 5, none⟩)), BIs (.pointer (some ⟨b, o + k * 5, none⟩)), BIs (.agg #[v0, v1, v2, v3]), BIs (.slice (some ⟨b, o, none⟩) n cap), BIs (.int .i64 (k : Int)), BIs (.slice (some ⟨b, o, none⟩) k cap), (fun w v => IssX X w v (fboxes (fs.take k))), (fun w v => ∃ z, v = .tuple #[z, .bool R.isSome] ∧ ∀ ys, R = some ys → IssX X w z ys), (fun w z => ∀ ys, R = some ys → IssX X w z ys), BIs (.bool R.isSome), (fun w z => ∀ ys, R = some ys → IssX X w z ys), BIs (.bool R.isSome)] (by kernel_rfl) (fun u => by simp only [frU, Act.put, List.setIfInBounds_toArray, List.set_cons_succ, List.set_cons_zero, Nat.zero_add, Nat.reduceAdd]; exact rfl) (by kernel_rfl) ⟨bst_is _, bst_is _, bst_is _, bst_is _, bst_is _, bst_is _, bst_is _, bst_is _, (fun _ _ _ hb h => h.below hb), (fun _ _ _ hb ⟨z, h1, h2⟩ => ⟨z, h1, fun ys hy => (h2 ys hy).below hb⟩), (fun _ _ _ hb h ys hy => (h ys hy).below hb), bst_is _, (fun _ _ _ hb h ys hy => (h ys hy).below hb), bst_is _, trivial⟩ ?_ ?_; exact ⟨stB rfl (fun u w3 hC hd Q K hK => by (go_step; exact hK _ _ rfl (Below.refl _ _) rfl)), stB rfl (fun u w3 hC hd Q K hK => by (go_step; exact hK _ _ rfl (Below.refl _ _) rfl)), stB rfl (fun u w3 hC hd Q K hK => by (have hu := bis (w := w3) (hd 0 rfl); rw [hu] at hK ⊢; clear hu; have hu := bis (w := w3) (hd 1 rfl); rw [hu] at hK ⊢; clear hu; go_step; exact hK _ _ rfl (Below.refl _ _) rfl)), stB rfl (fun u w3 hC hd Q K hK => by (have hu := bis (w := w3) (hd 2 rfl); rw [hu] at hK ⊢; clear hu; go_step; exact hK _ _ rfl (Below.refl _ _) rfl)), stB rfl (fun u w3 hC hd Q K hK => by (have hu := bis (w := w3) (hd 3 rfl); rw [hu] at hK ⊢; clear hu; have z0 := (hC.cell (p := ⟨b, o + k * 5, none⟩) hbl).trans c0; have z1 := (hC.cell (p := ⟨b, o + k * 5 + 1, none⟩) hbl).trans c1; have z2 := (hC.cell (p := ⟨b, o + k * 5 + 2, none⟩) hbl).trans c2; have z3 := (hC.cell (p := ⟨b, o + k * 5 + 3, none⟩) hbl).trans c3; go_step; exact hK _ _ rfl (Below.refl _ _) rfl)), stB rfl (fun u w3 hC hd Q K hK => by (go_step; exact hK _ _ rfl (Below.refl _ _) rfl)), stB rfl (fun u w3 hC hd Q K hK => by (go_step; exact hK _ _ rfl (Below.refl _ _) rfl)), stB rfl (fun u w3 hC hd Q K hK => by (have hu := bis (w := w3) (hd 5 rfl); rw [hu] at hK ⊢; clear hu; have hu := bis (w := w3) (hd 6 rfl); rw [hu] at hK ⊢; clear hu; go_step; exact hK _ _ rfl (Below.refl _ _) rfl)), stB rfl (fun u w3 hC hd Q K hK => by (have hu := bis (w := w3) (hd 7 rfl); rw [hu] at hK ⊢; clear hu; go_step; refine (wheresX_any (fs.take k) _ _ (HT.out.kept hC) HL.out).mono ?_; rintro e w4 ⟨z4, rfl, ho4, hb4⟩; exact hK _ _ rfl hb4 ho4)), stB rfl (fun u w3 hC hd Q K hK => by (have hu := bis (w := w3) (hd 4 rfl); rw [hu] at hK ⊢; clear hu; have ho1 := hd 8 rfl; generalize u 8 = v1 at *; go_step; refine (less_r HR.out (ht.below hC) (fun k hk => by have := hXX k hk; have := hC.size; omega) (HSS.out.mono (fun _ _ g => g.below hC)) ho1 (fvalid_at HV.out HX.out) (fboxes_valid (fvalid_take HV.out k))).mono ?_; rintro e w4 ⟨z4, rfl, ho4, hb4⟩; exact hK _ _ rfl hb4 ⟨z4, rfl, ho4⟩)), stB rfl (fun u w3 hC hd Q K hK => by (obtain ⟨z, hu, hz⟩ := hd 9 rfl; rw [hu] at hK ⊢; clear hu; go_step; exact hK _ _ rfl (Below.refl _ _) hz)), stB rfl (fun u w3 hC hd Q K hK => by (obtain ⟨z, hu, hz⟩ := hd 9 rfl; rw [hu] at hK ⊢; clear hu; go_step; exact hK _ _ rfl (Below.refl _ _) rfl)), stB rfl (fun u w3 hC hd Q K hK => by (have h2 := hd 10 rfl; generalize u 10 = v2 at *; go_step; exact hK _ _ rfl (Below.refl _ _) h2)), stB rfl (fun u w3 hC hd Q K hK => by (have hu := bis (w := w3) (hd 11 rfl); rw [hu] at hK ⊢; clear hu; go_step; exact hK _ _ rfl (Below.refl _ _) rfl)), trivial⟩); intro u w9 hb_w9 hF; rw [bis (w := w9) (hF 0 (by decide))]; rw [bis (w := w9) (hF 1 (by decide))]; rw [bis (w := w9) (hF 2 (by decide))]; rw [bis (w := w9) (hF 3 (by decide))]; rw [bis (w := w9) (hF 4 (by decide))]; rw [bis (w := w9) (hF 5 (by decide))]; rw [bis (w := w9) (hF 6 (by decide))]; rw [bis (w := w9) (hF 7 (by decide))]; generalize u 8 = vx8 at *; generalize u 9 = vx9 at *; generalize u 10 = vx10 at *; rw [bis (w := w9) (hF 11 (by decide))]; have hz8 := hF 12 (by decide); generalize u 12 = z8 at *; rw [bis (w := w9) (hF 13 (by decide))]; clear hF
  have HZ := Lib.hid hz8
  go_wp2
  go_ret2
  exact ⟨_, rfl, HZ.out, hb_w9⟩
def ROk (bs : List Bx) (k : Nat) : Prop := ∀ (i : Nat) b, i < k → bs[i]? = some b → bvalid b = true
theorem ROk.step {bs : List Bx} {k : Nat} {b : Bx} (h : ROk bs k) (hx : bs[k]? = some b) (hv : bvalid b = true) : ROk bs (k + 1) := fun i c hi hc => by
  by_cases e : i = k
  · subst e; rw [hx] at hc; cases hc; exact hv
  · exact h i c (by omega) hc
theorem rvalid_yes {bs : List Bx} (h : ROk bs bs.length) : rvalid bs = decide (bs.length ≤ 400) := by
  unfold rvalid
  have : bs.all bvalid = true := by
    rw [List.all_eq_true]
    intro b hb
    obtain ⟨i, hi⟩ := List.getElem?_of_mem hb
    exact h i b (List.getElem?_eq_some_iff.1 hi).1 hi
  rw [this, Bool.and_true]
theorem rvalid_no {bs : List Bx} {k : Nat} {b : Bx} (hx : bs[k]? = some b) (hv : bvalid b = false) : rvalid bs = false := by
  rw [← Bool.not_eq_true]
  intro h
  rw [(rvalid_all h).2 b (List.mem_of_getElem? hx)] at hv
  cases hv
set_option maxHeartbeats 1000000 in
theorem specRV_any {lo : Nat} (fs : List Bx) (v : Value) (w : World) (hs : Bxs lo w v fs) :
    Calls Tryz.prog 34 #[v] w fun e w' => e = .returned (.bool (rvalid fs)) ∧ Below w.heap.size w w' := by
  obtain ⟨a, cap, rfl, hlc, hcm⟩ := hs.form
  unfold maxLen at hcm
  generalize hn : fs.length = n at *
  have HN := Lib.hid hn
  clear hn
  go_enter Tryz.func34, Tryz.ntmps34
  go_wp2_with fail
  go_loopw [3] (fun i wr => ∃ k : Nat, k ≤ n ∧ i = .int .i64 k ∧ Hid (ROk fs k) ∧ Below w.heap.size w wr) (fun i _ => n - (intOf i).toNat)
  case atStart => exact ⟨0, by omega, rfl, Lib.hid (fun i b h => by omega), Below.refl _ _⟩
  case round =>
    obtain ⟨k, hk, rfl, HG, hbr⟩ := hrel
    have hzr := hbr.size
    have hs2 := hs.below hbr
    by_cases hlt : k < n
    · have i1 : (k : Int) < (n : Int) := by omega
      have i2 : (0 : Int) ≤ (k : Int) := by omega
      obtain ⟨f, hx⟩ : ∃ f, fs[k]? = some f := ⟨_, List.getElem?_eq_getElem (by rw [HN.out]; exact hlt)⟩
      obtain ⟨b', o, sv, rfl, hbl, c0, hsv⟩ := hs2.at hx
      have HX := Lib.hid hx
      have HSV := Lib.hid hsv
      clear hx hsv
      obtain ⟨r, hv⟩ : ∃ r, bvalid f = r := ⟨_, rfl⟩
      go_wp2_with fail
      refine (specBV_b HSV.out hv).mono ?_
      rintro e w9 ⟨rfl, hb9⟩
      have hb10 : Below w.heap.size w w9 := hbr.trans (hb9.mono hzr)
      clear hb9
      cases r
      · have HE := Lib.hid (rvalid_no HX.out hv)
        go_wp2
        go_ret
        exact ⟨ret_bool HE.out.symm, hb10⟩
      · have HE := Lib.hid (HG.out.step HX.out hv)
        go_wp2
        go_roundw
        case rel => exact ⟨k + 1, by omega, by go_num, HE, hb10⟩
        case measure => simp [intOf]; omega
    · have hkn : k = n := by omega
      have HE := Lib.hid (show rvalid fs = decide (n ≤ 400) by
        have hG := HG.out
        rw [hkn, ← HN.out] at hG
        rw [rvalid_yes hG, HN.out])
      go_wp2
      go_ret
      exact ⟨ret_bool (by rw [HE.out]; exact decide_eq_decide.2 (by omega)), hbr⟩
theorem specRV_b {lo : Nat} {fs : List Bx} {v : Value} {w : World} {r : Bool} (hs : Bxs lo w v fs) (h : rvalid fs = r) :
    Calls Tryz.prog 34 #[v] w fun e w' => e = .returned (.bool r) ∧ Below w.heap.size w w' := by
  subst h
  exact specRV_any fs v w hs
/-- An append to a list of the call's own, of whatever list. -/
theorem own_append_all {α : Type} {sz : Nat} {enc : α → List Value} (hsz : 0 < sz) (henc : ∀ x, (enc x).length = sz) {P : Program} {lo : Nat} {w : World} (t ty e : TypeId) (i : TypeInfo) (z : Value) (bytes : Nat) (ht : P.underlying t = some (.slice e)) (hi : P.info? e = some i) (hz : i.zero = some z)
    (hsize : i.size = sz) (hby : i.bytes = bytes) (hzs : z.cells.size = sz) {v vx : Value} {ys zs : List α} (hone : ∀ u ∈ zs.flatMap enc, u.oneCell' = true) (ho : OwnSl lo e sz enc w v ys)
    (hs : SlAt sz enc w vx zs) (hbytes : (ys.length + zs.length) * bytes ≤ 140737488355328) (hmax : ys.length + zs.length ≤ maxLen) (hlo : lo ≤ w.heap.size) :
    ∃ v' w', (Builtin.append_ #[t, t] ty #[v, vx]).run P w = .ok v' w' ∧ OwnSl lo e sz enc w' v' (ys ++ zs) ∧ w.grownBy w' v.ownBlock ∧ ∀ x, v'.ownBlock = some x → v.ownBlock = some x ∨ x = w.heap.size := by
  obtain ⟨a, cap, rfl, h1, h2, hx⟩ := id hs
  by_cases hn : zs = []
  · subst hn
    rcases ho.form with ⟨rfl, rfl⟩ | ⟨g, cp, rfl, _, _, hcp, _, _⟩
    · exact ⟨_, w, run_append_nothing t ty e i ht hi none a 0 0 (Nat.le_refl _) cap (fun _ => ⟨rfl, rfl⟩), by simpa using ho, World.grownBy.refl _ _, fun x hx => .inl hx⟩
    · exact ⟨_, w, run_append_nothing t ty e i ht hi (some ⟨g, 0, none⟩) a _ _ hcp cap (fun h => by cases h), by simpa using ho, World.grownBy.refl _ _, fun x hx => .inl hx⟩
  · have hlen : 0 < zs.length := List.length_pos_iff.2 hn
    obtain ⟨b, o, ha, _, _⟩ := hx 0 zs[0] (List.getElem?_eq_getElem hlen)
    subst ha
    obtain ⟨g5, cap5, w5, hrun, hown5, hgr5, hat5, _⟩ := run_append_lies (P := P) (w := w) t ty lo e i z sz bytes ht hi hz hsize hby hzs hsz v ys.length _ ho ⟨b, o, none⟩ zs.length cap (zs.flatMap enc) (length_flatMap henc zs) (hs.flat hsz henc) hone hlen hmax hbytes hlo w.heap.size rfl
    refine ⟨_, w5, hrun, ?_, hgr5, fun x hx => by cases hx; exact hat5⟩
    unfold OwnSl
    rw [List.length_append, List.flatMap_append]
    exact hown5
theorem grown_self {w w2 : World} {r : Option Nat} (h : w.grownBy w2 r) : w.heap.size ≤ w2.heap.size ∧ ∀ k, k < w.heap.size → some k ≠ r → w2.heap[k]? = w.heap[k]? := ⟨h.size, h.block⟩
/-- Boxes are put behind boxes. -/
theorem bx_append {X : Nat → Prop} {lo lo' : Nat} {w : World} {v vx : Value} {bs cs : List Bx} (ty : TypeId) (ho : BxX X lo w v bs) (hs : BxX (fun k => some k = v.ownBlock ∨ X k) lo' w vx cs) (hb : bs.length + cs.length ≤ 1000000) (hlo : lo ≤ w.heap.size) :
    ∃ v' w', (Builtin.append_ #[30, 30] ty #[v, vx]).run Tryz.prog w = .ok v' w' ∧ BxX X lo w' v' (bs ++ cs) ∧ w.grownBy w' v.ownBlock := by
  obtain ⟨i0, hi, hy0, hy1, hy2⟩ := info_parts infoBx
  obtain ⟨vs, g1, g2⟩ := ho
  obtain ⟨ws, k1, k2⟩ := hs
  have e1 := g2.1
  have e2 := k2.1
  have hone : ∀ u ∈ ws.flatMap enc1, u.oneCell' = true := fun u hu => by
    obtain ⟨r, hr, hu2⟩ := List.mem_flatMap.1 hu
    obtain ⟨k, hk⟩ := List.getElem?_of_mem hr
    obtain ⟨bx, hbx⟩ : ∃ bx, cs[k]? = some bx := ⟨_, List.getElem?_eq_getElem (by rw [← e2]; exact (List.getElem?_eq_some_iff.1 hk).1)⟩
    obtain ⟨a, c, rfl, -, -⟩ := (k2.2 k r bx hk hbx).rws.form
    simp only [enc1, List.mem_cons, List.not_mem_nil, or_false] at hu2
    subst hu2
    rfl
  obtain ⟨v', w', hrun, hown, hgr, hat⟩ := own_append_all (sz := 1) (enc := enc1) (by omega) (fun _ => rfl) (P := Tryz.prog) 30 ty 68 i0 _ 24 Tryz.underlying30 hi hy0 hy1 hy2 rfl hone g1 (SlFr.at (OwnSl.fr (sz := 1) (enc := enc1) (fun _ => rfl) k1)) (by omega) (by simp only [maxLen]; omega) hlo
  refine ⟨v', w', hrun, ?_, hgr⟩
  exact BxX.push (H := w.heap.size) g2 (k2.mono (fun _ _ g => g.sub (fun k hk => .inr hk))) (grown_self hgr) (fun z hz => hat z hz) (Nat.le_refl _) hown
/-- Boxes whose sets lie in no block of X (the reference's form). -/
def BxsV (X : Nat → Prop) (w : World) (v : Value) (bs : List Bx) : Prop := ∃ vs, SlV X 1 enc1 w v vs ∧ All2 (RwV X w) vs bs
theorem BxsV.bxs {X : Nat → Prop} {w : World} {v : Value} {bs : List Bx} (h : BxsV X w v bs) : Bxs 0 w v bs :=
  let ⟨vs, h1, h2⟩ := h
  ⟨vs, h1.1, h2.mono (fun _ _ g => g.rws)⟩
theorem BxsV.keep {X X' : Nat → Prop} {w w' : World} {v : Value} {bs : List Bx} (h : BxsV X w v bs) (hz : w.heap.size ≤ w'.heap.size) (hk : ∀ k, k < w.heap.size → ¬ X k → w'.heap[k]? = w.heap[k]? ∧ ¬ X' k) : BxsV X' w' v bs :=
  let ⟨vs, h1, h2⟩ := h
  ⟨vs, h1.keep hz hk, h2.mono (fun _ _ g => g.keep hz hk)⟩
theorem BxsV.below {X : Nat → Prop} {w w' : World} {v : Value} {bs : List Bx} (h : BxsV X w v bs) (hb : Below w.heap.size w w') : BxsV X w' v bs := h.keep hb.size (fun k k1 k2 => ⟨hb.block k k1, k2⟩)
theorem BxsV.form {X : Nat → Prop} {w : World} {v : Value} {bs : List Bx} (h : BxsV X w v bs) : ∃ a cap, v = .slice a bs.length cap ∧ bs.length ≤ cap ∧ cap ≤ maxLen := h.bxs.form
theorem BxsV.at {X : Nat → Prop} {w : World} {a : Option Addr} {n cap : Nat} {bs : List Bx} (h : BxsV X w (.slice a n cap) bs) {k : Nat} {f : Bx} (hk : bs[k]? = some f) :
    ∃ b o sv, a = some ⟨b, o, none⟩ ∧ b < w.heap.size ∧ w.cell? ⟨b, o + k, none⟩ = some sv ∧ RwV X w sv f := by
  obtain ⟨rs, ⟨⟨a', cap', he, _, _, hx⟩, _⟩, h2⟩ := h
  obtain ⟨rfl, _, _⟩ := Value.slice.inj he
  obtain ⟨r, hr, hs⟩ := h2.left hk
  obtain ⟨b, o, ha, _, hb, hc⟩ := hx k r hr
  exact ⟨b, o, r, ha, hb, by simpa using hc 0 _ rfl, hs⟩
theorem BxX.bv {X : Nat → Prop} {lo : Nat} {w : World} {v : Value} {bs : List Bx} (h : BxX X lo w v bs) (hX : ∀ k, X k → k < lo) : BxsV X w v bs := by
  obtain ⟨vs, h1, h2⟩ := h
  exact ⟨vs, SlV.high (OwnSl.fr (sz := 1) (enc := enc1) (fun _ => rfl) h1) hX, h2.mono (fun _ _ g => g.sub (fun k hk => .inr hk))⟩
theorem RwV.older {P X : Nat → Prop} {w0 w : World} {v : Value} {b : Bx} (h : RwV X w0 v b) (hb : Below w0.heap.size w0 w) (hP : ∀ k, P k → w0.heap.size ≤ k ∨ X k) : RwV P w v b :=
  h.keep hb.size (fun k k1 k2 => ⟨hb.block k k1, fun hk => (hP k hk).elim (fun h => by omega) k2⟩)
theorem RwV.all {lo : Nat} {w : World} {v : Value} {b : Bx} (h : Rws lo w v b) : RwV (fun _ => False) w v b := RwV.old h (Below.refl _ _) (fun _ h => h.elim)
set_option maxHeartbeats 4000000 in
set_option maxRecDepth 100000 in
theorem specLessX_any {X : Nat → Prop} {lo' : Nat} (b : Bx) (xs : List Bx) (u v : Value) (w : World) (hXX : ∀ k, X k → k < w.heap.size) (hs : RwV X w u b) (hr : Bxs lo' w v xs) (hb : bvalid b = true) (hx : ∀ (k : Nat) x, xs[k]? = some x → bvalid x = true) :
    Calls Tryz.prog 81 #[.agg #[u], v] w fun e w' => ∃ z, e = .returned (.tuple #[z, .bool (blessB b xs).isSome]) ∧ (∀ ys, blessB b xs = some ys → BxsV X w' z ys) ∧ ((blessB b xs) = none → ∃ c, z = .slice (some ⟨c, 0, none⟩) 0 0) ∧ Below w.heap.size w w' := by
  obtain ⟨ua, uc, rfl, hlu, hcu⟩ := hs.rws.form
  obtain ⟨a, cap, rfl, hlc, hcm⟩ := hr.form
  unfold maxLen at hcm
  obtain ⟨i0, hi, hy0, hy1, hy2⟩ := info_parts infoBx
  generalize hn : xs.length = n at *
  have HN := Lib.hid hn
  have hs4 := (bvalid_four hb).1
  rw [hs4] at hs hlu ⊢
  have HS := Lib.hid hs
  have HR := Lib.hid hr
  have HX := Lib.hid hx
  obtain ⟨em, hem⟩ : ∃ em, bempty b = em := ⟨_, rfl⟩
  have HE := Lib.hid hem
  have hal : Below w.heap.size w ((w.alloc (.cells #[.slice ua 4 uc] 68)).alloc (.cells #[] 68)) := by (repeat' (first | with_reducible exact Below.refl _ _ | with_reducible assumption | with_reducible refine Below.setCell ?_ ?_ _ | with_reducible refine Below.alloc ?_ ?_ _ | with_reducible refine Below.drew ?_ | with_reducible refine belDrewN ?_ _ | with_reducible refine Below.trans ?_ (Below.mono (by assumption) ?_) | omega | (simp; omega) | (simp; done)))
  have HO0 := Lib.hid (show OwnSl w.heap.size 68 1 enc1 ((w.alloc (.cells #[.slice ua 4 uc] 68)).alloc (.cells #[] 68)) (.slice (some ⟨w.heap.size + 1, 0, none⟩) 0 0) ([] : List Value) by
    have := litOwn 68 1 enc1 (base := w.heap.size) (w := w.alloc (.cells #[.slice ua 4 uc] 68)) (by simp)
    simpa using this)
  clear hn hs hr hx hs4
  go_enter Tryz.func81, Tryz.ntmps81
  go_wp2_with fail
  refine (l10Empty_b (HS.out.below hal).rws hem).mono ?_
  rintro e w1 ⟨rfl, hb1⟩
  have hw1 : Below w.heap.size w w1 := hal.trans (hb1.mono (by simp; omega))
  have hz1 := hb1.size
  simp only [World.size_alloc] at hz1
  have q0 := (hb1.cell (p := ⟨w.heap.size, 0, none⟩) (by simp; omega)).trans (show ((w.alloc (.cells #[.slice ua 4 uc] 68)).alloc (.cells #[] 68)).cell? ⟨w.heap.size, 0, none⟩ = some (.slice ua 4 uc) by simp)
  have HO1 := Lib.hid (OwnSl.kept HO0.out hb1)
  clear hb1 hal hem HO0
  go_upto_if 13 with (fail)
  go_cut [6] (fun o wx => Hid (BxsV X wx o (bstart b)) ∧ Below w.heap.size w wx)
  case first =>
    cases em
    · have HBS := Lib.hid (show bstart b = [b] by unfold bstart; rw [HE.out]; rfl)
      go_wp2_with (at_builtin; refine wpList_append_lies _ rfl _ _ 30 rfl w.heap.size 68 i0 _ 1 24 Tryz.underlying30 hi hy0 hy1 hy2 rfl (by decide) _ 0 [] rfl (World.ownsRow.alloc HO1.out _) ⟨w1.heap.size, 0, none⟩ 1 1 (enc1 (.slice ua 4 uc)) rfl rfl ?c1 ?c2 (by omega) ?c3 ?c4 ?c5 _ rfl ?_)
      case c1 => exact cellsNew w1 (enc1 (.slice ua 4 uc)) _
      case c2 => simp [Value.oneCell']
      case c3 => simp [maxLen]
      case c4 => omega
      case c5 => simp; omega
      intro g8 cap8 w8 hown8 hgrow8 hlies8 hlt8
      have hB8 : Below w.heap.size w w8 := belGrown (hw1.alloc (by omega) _) (World.ownsRow.alloc HO1.out _) hgrow8 (by simp; omega)
      have hz8 := hB8.size
      have HF := Lib.hid (show BxsV X w8 (.slice (some ⟨g8, 0, none⟩) 1 cap8) (bstart b) by
        rw [HBS.out]
        have h1 : OwnSl w.heap.size 68 1 enc1 w8 (.slice (some ⟨g8, 0, none⟩) 1 cap8) [Value.slice ua 4 uc] := by unfold OwnSl; simpa using hown8
        exact ⟨[.slice ua 4 uc], SlV.high (OwnSl.fr (sz := 1) (enc := enc1) (fun _ => rfl) h1) hXX, (All2.nil).snoc (HS.out.below hB8)⟩)
      clear hown8 hgrow8 hlies8 hlt8
      go_wp2
      go_meet
      exact ⟨HF, hB8⟩
    · have HBS := Lib.hid (show bstart b = [] by unfold bstart; rw [HE.out]; rfl)
      go_wp2_with fail
      go_meet
      exact ⟨Lib.hid (by rw [HBS.out]; exact ⟨[], SlV.high (OwnSl.fr (sz := 1) (enc := enc1) (fun _ => rfl) HO1.out) hXX, All2.nil⟩), hw1⟩
  case rest =>
    obtain ⟨HL0, hwc⟩ := hcut
    have hzc := hwc.size
    have HVS := Lib.hid (bstart_valid hb)
    clear HO1 q0
    go_wp2_with fail
    go_loopw [6, 7] (fun o i wr => ∃ (k : Nat) (L : List Bx), k ≤ n ∧ i = .int .i64 k ∧ Hid (BxsV X wr o L) ∧ Hid (rvalid L = true) ∧ Hid (blessB b xs = bless L (xs.drop k)) ∧ Below w.heap.size w wr) (fun _ i _ => n - (intOf i).toNat)
    case atStart => exact ⟨0, bstart b, by omega, rfl, HL0, HVS, Lib.hid rfl, hwc⟩
    case round =>
      obtain ⟨k, L, hk, rfl, HL, HV, HB, hbr⟩ := hrel
      have hzr := hbr.size
      obtain ⟨la, lc, hLf, hl1, hl2⟩ := HL.out.form
      subst hLf
      unfold maxLen at hl2
      obtain ⟨hL4, hLv⟩ := rvalid_all HV.out
      have HLV := Lib.hid hLv
      obtain ⟨m, hm⟩ : ∃ m, L.length = m := ⟨_, rfl⟩
      have HM := Lib.hid hm
      replace HL := Lib.hid (show BxsV X wr (.slice la m lc) L by have := HL.out; rwa [hm] at this)
      rw [hm] at hl1 hL4 ⊢
      clear HL0 hLv hm
      by_cases hlt : k < n
      · have i1 : (k : Int) < (n : Int) := by omega
        have i2 : (0 : Int) ≤ (k : Int) := by omega
        obtain ⟨x, hxk⟩ : ∃ x, xs[k]? = some x := ⟨_, List.getElem?_eq_getElem (by rw [HN.out]; exact hlt)⟩
        obtain ⟨bb, o, tv, rfl, hbl, c0, hts⟩ := (HR.out.below hbr).at hxk
        have HXV := Lib.hid (HX.out k x hxk)
        have HXK := Lib.hid (drop_cons hxk)
        have HTS := Lib.hid hts
        have hal : Below wr.heap.size wr (wr.alloc (.cells #[] 68)) := (Below.refl _ _).alloc (Nat.le_refl _) _
        have HO0 := Lib.hid (litOwn 68 1 enc1 (base := wr.heap.size) (w := wr) (Nat.le_refl _))
        obtain ⟨W0, hW0⟩ : ∃ W0, W0 = wr := ⟨_, rfl⟩
        subst hW0
        clear hts hxk
        go_wp2_with fail
        go_loopw [8, 9] (fun o i wr2 => ∃ j : Nat, j ≤ m ∧ i = .int .i64 j ∧ Hid (BxX X W0.heap.size wr2 o (bless1 (L.take j) x)) ∧ Below W0.heap.size W0 wr2) (fun _ i _ => m - (intOf i).toNat)
        case atStart => exact ⟨0, by omega, rfl, Lib.hid ⟨[], HO0.out, All2.nil⟩, hal⟩
        case round =>
          obtain ⟨j, hj, rfl, HO, hb2⟩ := hrel
          have hz2 := hb2.size
          have hw2 : Below w.heap.size w wr := hbr.trans (hb2.mono hzr)
          by_cases hlj : j < m
          · have i3 : (j : Int) < (m : Int) := by omega
            have i4 : (0 : Int) ≤ (j : Int) := by omega
            obtain ⟨p, hp⟩ : ∃ p, L[j]? = some p := ⟨_, List.getElem?_eq_getElem (by rw [HM.out]; exact hlj)⟩
            obtain ⟨b1, o1, sv, rfl, hbl1, d0, hps⟩ := HL.out.at hp
            have HPS := Lib.hid hps
            have HPV := Lib.hid (HLV.out p (List.mem_of_getElem? hp))
            have HP := Lib.hid hp
            have d1 := (hb2.cell (p := ⟨b1, o1 + j, none⟩) hbl1).trans d0
            have c1 := (hb2.cell (p := ⟨bb, o + k, none⟩) hbl).trans c0
            obtain ⟨N, hN⟩ : ∃ N, bless1 (L.take j) x = N := ⟨_, rfl⟩
            have HNN := Lib.hid hN
            rw [hN] at HO
            have HNL := Lib.hid (show N.length ≤ 1600 by
              rw [← hN]
              unfold bless1
              rw [List.length_flatMap]
              have : ∀ ys : List Bx, ((ys.map fun a => (bcut a x).length).sum) ≤ 4 * ys.length := fun ys => by
                induction ys with
                | nil => simp
                | cons y ys ih => have := bcut_len y x; simp only [List.map_cons, List.sum_cons, List.length_cons]; omega
              have h1 := this (L.take j)
              rw [List.length_take] at h1
              omega)
            have hown : ∀ z, u8.ownBlock = some z → W0.heap.size ≤ z ∧ z < wr.heap.size := fun z hz => by
              obtain ⟨vs, g1, _⟩ := HO.out
              exact World.ownsRow.lt g1 z hz
            have HOW := Lib.hid hown
            clear hp hps d0 hN hown
            go_wp2_with fail
            refine wp_region_turn (W := wr) 10 [BIs (u8), BIs (.slice (some ⟨b1, o1, none⟩) m lc), BIs (.int .i64 (j : Int)), BIs (.pointer (some ⟨b1, o1 + j, none⟩)), BIs (.agg #[sv]), BIs (.slice (some ⟨bb, o, none⟩) n cap), BIs (.int .i64 (k : Int)), BIs (.pointer (some ⟨bb, o + k, none⟩)), BIs (.agg #[tv]), (fun w v => ∃ lo, BxX (fun q => some q = u8.ownBlock ∨ X q) lo w v (bcut p x))] (fun w7 v7 => BxX X W0.heap.size w7 v7 (N ++ bcut p x) ∧ Below W0.heap.size W0 w7) (by kernel_rfl) (by decide) (fun u => by simp only [frU, Act.put, List.setIfInBounds_toArray, List.set_cons_succ, List.set_cons_zero, Nat.zero_add, Nat.reduceAdd]; exact rfl) (by kernel_rfl) ⟨bst_is _, bst_is _, bst_is _, bst_is _, bst_is _, bst_is _, bst_is _, bst_is _, bst_is _, (fun _ _ _ hb ⟨lo, h⟩ => ⟨lo, h.below hb⟩), trivial⟩ ?_ ?_; (exact ⟨stT rfl (by decide) (by kernel_rfl) (fun u w3 hC hd hI Q K hK => by (rw [show u 11 = u8 from hI 11 _ rfl (by kernel_rfl)] at hK ⊢; go_step; exact hK _ _ rfl (Below.refl _ _) rfl)), stT rfl (by decide) (by kernel_rfl) (fun u w3 hC hd hI Q K hK => by (go_step; exact hK _ _ rfl (Below.refl _ _) rfl)), stT rfl (by decide) (by kernel_rfl) (fun u w3 hC hd hI Q K hK => by (go_step; exact hK _ _ rfl (Below.refl _ _) rfl)), stT rfl (by decide) (by kernel_rfl) (fun u w3 hC hd hI Q K hK => by (have hu := bis (w := w3) (hd 1 rfl); rw [hu] at hK ⊢; clear hu; have hu := bis (w := w3) (hd 2 rfl); rw [hu] at hK ⊢; clear hu; go_step; exact hK _ _ rfl (Below.refl _ _) rfl)), stT rfl (by decide) (by kernel_rfl) (fun u w3 hC hd hI Q K hK => by (have hu := bis (w := w3) (hd 3 rfl); rw [hu] at hK ⊢; clear hu; have z1 := (hC.cell (p := ⟨b1, o1 + j, none⟩) (by simp only; omega)).trans d1; go_step; exact hK _ _ rfl (Below.refl _ _) rfl)), stT rfl (by decide) (by kernel_rfl) (fun u w3 hC hd hI Q K hK => by (go_step; exact hK _ _ rfl (Below.refl _ _) rfl)), stT rfl (by decide) (by kernel_rfl) (fun u w3 hC hd hI Q K hK => by (go_step; exact hK _ _ rfl (Below.refl _ _) rfl)), stT rfl (by decide) (by kernel_rfl) (fun u w3 hC hd hI Q K hK => by (have hu := bis (w := w3) (hd 5 rfl); rw [hu] at hK ⊢; clear hu; have hu := bis (w := w3) (hd 6 rfl); rw [hu] at hK ⊢; clear hu; go_step; exact hK _ _ rfl (Below.refl _ _) rfl)), stT rfl (by decide) (by kernel_rfl) (fun u w3 hC hd hI Q K hK => by (have hu := bis (w := w3) (hd 7 rfl); rw [hu] at hK ⊢; clear hu; have z1 := (hC.cell (p := ⟨bb, o + k, none⟩) (by simp only; omega)).trans c1; go_step; exact hK _ _ rfl (Below.refl _ _) rfl)), stT rfl (by decide) (by kernel_rfl) (fun u w3 hC hd hI Q K hK => by (have hu := bis (w := w3) (hd 4 rfl); rw [hu] at hK ⊢; clear hu; have hu := bis (w := w3) (hd 8 rfl); rw [hu] at hK ⊢; clear hu; go_step; refine (l11Cut_any (fun q => some q = u8.ownBlock ∨ X q) p x _ _ _ (fun q hq => hq.elim (fun e => by have := HOW.out q e.symm; have := hC.size; omega) (fun e => by have := hXX q e; have := hbr.size; have := hb2.size; have := hC.size; omega)) (RwV.older HPS.out (hb2.trans (hC.mono hz2)) (fun q hq => hq.elim (fun e => .inl (HOW.out q e.symm).1) .inr)) (HTS.out.below (hb2.trans (hC.mono hz2))) HPV.out HXV.out).mono ?_; rintro e w4 ⟨z4, rfl, ho4, hb4⟩; exact hK _ _ rfl hb4 ⟨_, ho4⟩)), stTa rfl (by decide) (fun u w3 hC hd Q K hK => by (dsimp only at hK ⊢; have hu := bis (w := w3) (hd 0 rfl); rw [hu] at hK ⊢; clear hu; have ho1 := hd 9 rfl; generalize u 9 = v1 at *; obtain ⟨lo1, ho1⟩ := ho1; have hbd := HNL.out; have hbe := bcut_len p x; obtain ⟨v7, w7, hrun, hG, hgr⟩ := bx_append (X := X) 30 (HO.out.below hC) ho1 (by omega) (by have := hC.size; omega); refine wp_append_run (.tmp 31) (.tmp 40) 30 rfl rfl rfl hrun ?_; exact hK _ _ rfl ⟨hG, (hb2.trans (hC.mono hz2)).grown hgr (by have := hC.size; omega) (fun z hz => (HOW.out z hz).1)⟩)), stTe rfl (by decide) (by kernel_rfl) (fun u w3 hG Q K hK => by (dsimp only at hK ⊢; go_step; exact hK _ rfl hG)), trivial⟩); intro u w9 hG; have h8 := hG 11 (by decide) (by decide); clear hG; generalize u 0 = vx0 at *; generalize u 1 = vx1 at *; generalize u 2 = vx2 at *; generalize u 3 = vx3 at *; generalize u 4 = vx4 at *; generalize u 5 = vx5 at *; generalize u 6 = vx6 at *; generalize u 7 = vx7 at *; generalize u 8 = vx8 at *; generalize u 9 = vx9 at *; generalize u 10 = vx10 at *; generalize u 11 = v8 at *
            obtain ⟨hg8, hB8⟩ := h8
            have HF8 := Lib.hid (show BxX X W0.heap.size w9 v8 (bless1 (L.take (j + 1)) x) by rw [bless1_succ HP.out, HNN.out]; exact hg8)
            clear hg8
            go_wp2
            go_roundw
            case rel => exact ⟨j + 1, by omega, by go_num, HF8, hB8⟩
            case measure => simp [intOf]; omega
          · have hjm : j = m := by omega
            have HCC := Lib.hid (show bless1 (L.take j) x = bless1 L x by rw [List.take_of_length_le (by rw [HM.out]; omega)])
            obtain ⟨N, hN⟩ : ∃ N, bless1 (L.take j) x = N := ⟨_, rfl⟩
            rw [hN] at HO HCC
            have HI := Lib.hid (HO.out.bv (fun q hq => by have := hXX q hq; have := hbr.size; omega))
            obtain ⟨r, hr⟩ : ∃ r, rvalid N = r := ⟨_, rfl⟩
            have HRR := Lib.hid hr
            obtain ⟨na, nc, hnf, -, -⟩ := HI.out.form
            subst hnf
            clear hN
            go_wp2_with fail
            refine (specRV_b HI.out.bxs hr).mono ?_
            rintro e w5 ⟨rfl, hb5⟩
            have hw5 : Below w.heap.size w w5 := hw2.trans (hb5.mono hw2.size)
            have HI5 := Lib.hid (HI.out.below hb5)
            clear hb5 hr
            cases r
            · have HE2 := Lib.hid (show blessB b xs = none by rw [HB.out, HXK.out]; exact bless_bad (by rw [← HCC.out]; exact HRR.out))
              go_wp2
              go_ret2
              exact ⟨_, by rw [HE2.out]; rfl, fun ys h => (by rw [HE2.out] at h; cases h), fun _ => ⟨_, rfl⟩, hw5.alloc (by have := hw5.size; omega) _⟩
            · have HB2 := Lib.hid (show blessB b xs = bless N (xs.drop (k + 1)) by rw [HB.out, HXK.out, bless_ok (by rw [← HCC.out]; exact HRR.out), HCC.out])
              go_wp2
              go_roundw
              case rel => exact ⟨k + 1, N, by omega, by go_num, HI5, HRR, HB2, hw5⟩
              case measure => simp [intOf]; omega
      · have HE2 := Lib.hid (show blessB b xs = some L by rw [HB.out, List.drop_of_length_le (by rw [HN.out]; omega)]; rfl)
        go_wp2
        go_ret2
        exact ⟨_, by rw [HE2.out]; rfl, fun ys h => (by rw [HE2.out] at h; cases h; exact HL.out), fun h => (by rw [HE2.out] at h; cases h), hbr⟩
theorem specLess_any {lo lo' : Nat} (b : Bx) (xs : List Bx) (u v : Value) (w : World) (hs : Rws lo w u b) (hr : Bxs lo' w v xs) (hb : bvalid b = true) (hx : ∀ (k : Nat) x, xs[k]? = some x → bvalid x = true) :
    Calls Tryz.prog 81 #[.agg #[u], v] w fun e w' => ∃ z, e = .returned (.tuple #[z, .bool (blessB b xs).isSome]) ∧ (∀ ys, blessB b xs = some ys → Bxs 0 w' z ys) ∧ ((blessB b xs) = none → ∃ c, z = .slice (some ⟨c, 0, none⟩) 0 0) ∧ Below w.heap.size w w' := by
  refine (specLessX_any (X := fun _ => False) b xs u v w (fun _ h => h.elim) (RwV.all hs) hr hb hx).mono ?_
  rintro e w' ⟨z, rfl, h1, h2, h3⟩
  exact ⟨z, rfl, fun ys hy => (h1 ys hy).bxs, h2, h3⟩
theorem specLessX_r {X : Nat → Prop} {lo' : Nat} {b : Bx} {xs : List Bx} {u v : Value} {w : World} {R : Option (List Bx)} (h : blessB b xs = R) (hXX : ∀ k, X k → k < w.heap.size) (hs : RwV X w u b) (hr : Bxs lo' w v xs) (hb : bvalid b = true) (hx : ∀ z ∈ xs, bvalid z = true) :
    Calls Tryz.prog 81 #[.agg #[u], v] w fun e w' => ∃ za zn zc, e = .returned (.tuple #[.slice za zn zc, .bool R.isSome]) ∧ (∀ ys, R = some ys → BxsV X w' (.slice za zn zc) ys) ∧ Below w.heap.size w w' := by
  subst h
  refine (specLessX_any b xs u v w hXX hs hr hb (fun k x hk => hx x (List.mem_of_getElem? hk))).mono ?_
  rintro e w' ⟨z, rfl, h1, h2, h3⟩
  cases hO : blessB b xs with
  | none =>
    obtain ⟨c, rfl⟩ := h2 hO
    exact ⟨_, _, _, rfl, fun ys hy => (by cases hy), h3⟩
  | some ys =>
    obtain ⟨a, c, rfl, -, -⟩ := (h1 ys hO).form
    exact ⟨_, _, _, rfl, fun zs hz => (by cases hz; exact h1 ys hO), h3⟩
theorem fvalid_fN {fs : List Ft} (h : fvalid fs = true) : ftN fs ≤ 1048576 :=
  drawn_ftN (by have := fvalid_60 h; omega) (fun k f hx => ⟨by have := (bvalid_four (fvalid_at h hx)).1; omega, fun j xs hj => bvalid_lens (fvalid_at h hx) j xs hj⟩)
set_option maxHeartbeats 2000000 in
set_option maxRecDepth 100000 in
theorem specFB_v {lo : Nat} (fs : List Ft) (v : Value) (w : World) (hs : Fts lo w v fs) (hfv : fvalid fs = true) :
    Calls Tryz.prog 82 #[v] w fun e w' => ∃ v', e = .returned v' ∧ Bxs 0 w' v' (fboxes fs) ∧ Below w.heap.size w w' := by
  obtain ⟨a, cap, rfl, hlc, hcm⟩ := hs.form
  unfold maxLen at hcm
  obtain ⟨i0, hi, hy0, hy1, hy2⟩ := info_parts infoBx
  have HFN := Lib.hid (fvalid_fN hfv)
  have h60 := fvalid_60 hfv
  go_enter Tryz.func82, Tryz.ntmps82
  go_wp2_with fail
  refine (ownFlats_any fs _ _ hs HFN.out).mono ?_
  rintro e w1 ⟨v1, rfl, ho1, hb1⟩
  have hz1 := hb1.size
  have hs1 := ho1.fts
  obtain ⟨sa, sc, rfl, hsc, hsm⟩ := hs1.form
  unfold maxLen at hsm
  generalize hn : fs.length = n at *
  have HN := Lib.hid hn
  have hal : Below w1.heap.size w1 (w1.alloc (.cells #[] 68)) := (Below.refl _ _).alloc (Nat.le_refl _) _
  have HO0 := Lib.hid (show BsO w.heap.size (w1.alloc (.cells #[] 68)) (.slice (some ⟨w1.heap.size, 0, none⟩) 0 0) [] from ⟨[], litOwn 68 1 enc1 hz1, All2.nil⟩)
  have HS1 := Lib.hid hs1
  clear hs ho1 hn hs1
  go_wp2_with fail
  go_loopw [3, 4] (fun o i wr => ∃ (k : Nat), k ≤ n ∧ i = .int .i64 k ∧ Hid (BsO w.heap.size wr o ((fboxes fs).take k)) ∧ Hid (∀ z, o.ownBlock = some z → w1.heap.size ≤ z) ∧ Below w1.heap.size w1 wr) (fun _ i _ => n - (intOf i).toNat)
  case atStart => exact ⟨0, by omega, rfl, HO0, Lib.hid (fun z hz => by cases hz; exact Nat.le_refl _), hal⟩
  case round =>
    obtain ⟨k, hk', rfl, HO, HZ, hbr⟩ := hrel
    have hzr := hbr.size
    have hwr : Below w.heap.size w wr := hb1.trans (hbr.mono hz1)
    have hsr := HS1.out.below hbr
    by_cases hlt : k < n
    · have i1 : (k : Int) < (n : Int) := by omega
      have i2 : (0 : Int) ≤ (k : Int) := by omega
      obtain ⟨f, hx⟩ : ∃ f, fs[k]? = some f := ⟨_, List.getElem?_eq_getElem (by rw [HN.out]; exact hlt)⟩
      have HXX := Lib.hid (fboxes_get hx)
      obtain ⟨b, o, sv, rfl, hbl, c0, c1, hsv⟩ := HS1.out.at hx
      obtain ⟨x1, y1, rfl, -, -⟩ := hsv.form
      go_wp2_with fail
      refine (specFV_b hsr hfv).mono ?_
      rintro e w3 ⟨rfl, hb3⟩
      have hb13 : Below w1.heap.size w1 w3 := hbr.trans (hb3.mono hzr)
      have hz3 := hb13.size
      replace c0 := (hb13.cell (p := ⟨b, o + k * 2, none⟩) hbl).trans c0
      have hbl3 : b < w3.heap.size := by omega
      obtain ⟨vs, hvs, hal⟩ := HO.out
      obtain ⟨ua, uc, hu, -, -⟩ : ∃ a c, u3 = .slice a vs.length c ∧ True ∧ True := by
        rcases OwnSl.form hvs with ⟨h, h'⟩ | ⟨g, c, h, _⟩
        · exact ⟨_, _, by rw [h, h']; rfl, trivial, trivial⟩
        · exact ⟨_, _, h, trivial, trivial⟩
      subst hu
      have hown : ∀ z, (Value.slice ua vs.length uc).ownBlock = some z → w1.heap.size ≤ z := HZ.out
      have HVS := Lib.hid (OwnSl.kept hvs hb3)
      have HAL := Lib.hid (hal.mono (fun _ _ h => (h.sub (Sb.hole hb3.size (fun j _ j2 j3 => ⟨j3, hb3.block j j2⟩)) : Rws w.heap.size (hole w3 (Value.slice ua vs.length uc).ownBlock) _ _)))
      have HEL := Lib.hid (show Rws w.heap.size (hole w3 (Value.slice ua vs.length uc).ownBlock) (.slice x1 f.box.length y1) f.box from
        hsv.sub (⟨by rw [hole_size]; exact hz3, fun p c hp hc => hole_cell.2 ⟨fun e => by
          have h1 := hown p.block e.symm
          have h2 := World.block_lt_of_cell? _ _ hc
          omega, (World.cell?_of_block (hb13.block p.block (World.block_lt_of_cell? _ _ hc))).trans hc⟩⟩))
      have HBD := Lib.hid (show vs.length ≤ 61 by have := hal.1; rw [List.length_take] at this; omega)
      clear hvs hal hsv hx
      go_wp2_with (at_builtin; refine wpList_append_lies _ rfl _ _ 30 rfl w.heap.size 68 i0 _ 1 24 Tryz.underlying30 hi hy0 hy1 hy2 rfl (by decide) _ vs.length (vs.flatMap enc1) rfl (World.ownsRow.alloc HVS.out _) ⟨w3.heap.size, 0, none⟩ 1 1 (enc1 (.slice x1 f.box.length y1)) rfl rfl (cellsNew w3 (enc1 (.slice x1 f.box.length y1)) _) ?c2 (by decide) ?c3 ?c4 ?c5 _ rfl ?_)
      case c2 => simp [Value.oneCell']
      case c3 => have := HBD.out; simp only [maxLen]; omega
      case c4 => have := HBD.out; omega
      case c5 => simp; omega
      intro g8 cap8 w8 hown8 hgrow8 hlies8 hlt8
      have hown9 : OwnSl w.heap.size 68 1 enc1 w8 (.slice (some ⟨g8, 0, none⟩) (vs.length + 1) cap8) (vs ++ [.slice x1 f.box.length y1]) := by unfold OwnSl; simpa using hown8
      have hF8 : BsO w.heap.size w8 (.slice (some ⟨g8, 0, none⟩) (vs.length + 1) cap8) ((fboxes fs).take k ++ [f.box]) :=
        BsO.push (w := w3) (H := w3.heap.size + 1) HAL.out HEL.out (grown_old hgrow8) hown9 (fun z hz => by cases hz; simpa using hlies8) (by omega)
      have HF8 := Lib.hid (show BsO w.heap.size w8 (.slice (some ⟨g8, 0, none⟩) (vs.length + 1) cap8) ((fboxes fs).take (k + 1)) by rw [List.take_add_one, HXX.out]; exact hF8)
      have HZ8 := Lib.hid (show ∀ z, (Value.slice (some ⟨g8, 0, none⟩) (vs.length + 1) cap8).ownBlock = some z → w1.heap.size ≤ z from fun z hz => by
        cases hz
        rcases hlies8 with h | h
        · exact hown _ h
        · (show w1.heap.size ≤ g8); omega)
      have hB8 : Below w1.heap.size w1 w8 := hb13.trans (((Below.refl _ _).alloc hz3 _).grown hgrow8 (by simp; omega) (fun h hh => hown h hh))
      clear hown8 hgrow8 hlies8 hlt8 hown9 hF8
      go_wp2
      go_roundw
      case rel => exact ⟨k + 1, by omega, by go_num, HF8, HZ8, hB8⟩
      case measure => simp [intOf]; omega
    · have HB := Lib.hid (show Bxs 0 wr u3 (fboxes fs) by
        obtain ⟨vs, g1, g2⟩ := HO.out.bxs
        rw [List.take_of_length_le (by simp [fboxes, HN.out]; omega)] at g2
        exact ⟨vs, SlFr.mono g1 (Nat.zero_le _), g2.mono (fun _ _ h => h.mono (Nat.zero_le _))⟩)
      go_wp2
      go_ret
      exact ⟨_, rfl, HB.out, hwr⟩
theorem specLess_r {lo lo' : Nat} {b : Bx} {xs : List Bx} {u v : Value} {w : World} {R : Option (List Bx)} (h : blessB b xs = R) (hs : Rws lo w u b) (hr : Bxs lo' w v xs) (hb : bvalid b = true) (hx : ∀ z ∈ xs, bvalid z = true) :
    Calls Tryz.prog 81 #[.agg #[u], v] w fun e w' => ∃ z, e = .returned (.tuple #[z, .bool R.isSome]) ∧ Bxs 0 w' z (R.getD []) ∧ Below w.heap.size w w' := by
  subst h
  refine (specLess_any b xs u v w hs hr hb (fun k x hk => hx x (List.mem_of_getElem? hk))).mono ?_
  rintro e w' ⟨z, rfl, h1, h2, h3⟩
  refine ⟨z, rfl, ?_, h3⟩
  cases hO : blessB b xs with
  | none =>
    obtain ⟨c, rfl⟩ := h2 hO
    exact ⟨[], ⟨_, _, rfl, by simp, by simp, fun k x h => by simp at h⟩, All2.nil⟩
  | some ys => exact h1 ys hO
theorem Fts.takeS {lo : Nat} {w : World} {a : Option Addr} {n cap : Nat} {fs : List Ft} (h : Fts lo w (.slice a n cap) fs) {k : Nat} (hk : k ≤ n) : Fts 0 w (.slice a k cap) (fs.take k) := by
  obtain ⟨rs, h1, h2⟩ := h
  refine ⟨rs.take k, SlFr.of (SlAt.take (SlFr.at h1) hk), ?_⟩
  refine ⟨by rw [List.length_take, List.length_take, h2.1], fun j x y hx hy => ?_⟩
  obtain ⟨h3, hx⟩ := get_take hx
  obtain ⟨_, hy⟩ := get_take hy
  obtain ⟨g1, g2⟩ := h2.2 j x y hx hy
  exact ⟨g1.mono (Nat.zero_le _), g2⟩
end Go.Proofs.YtajcogpfmpehkaaGreatDoor
