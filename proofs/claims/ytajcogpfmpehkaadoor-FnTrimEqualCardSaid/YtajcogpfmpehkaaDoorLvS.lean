/- Live parts of rules: both walks; what a region leaves (reference). -/
import Derived.Test.YtajcogpfmpehkaaDoorRgCL
import Derived.Test.YtajcogpfmpehkaaDoorLvP
import Derived.Deep.DeepCutAuto
import Derived.Test.YtajcogpfmpehkaaDoorRsC
import Derived.Test.YtajcogpfmpehkaaDoorRgX
import Derived.Test.YtajcogpfmpehkaaDoorFnX
import Derived.Test.YtajcogpfmpehkaaDoorFtW
namespace Go.Proofs.YtajcogpfmpehkaaDoor
open Go.RowKit
theorem Ifs.takeS {lo : Nat} {w : World} {a : Option Addr} {n cap : Nat} {fs : List Ft} (h : Ifs lo w (.slice a n cap) fs) {k : Nat} (hk : k ≤ n) : Ifs 0 w (.slice a k cap) (fs.take k) := by
  obtain ⟨rs, h1, h2⟩ := h
  refine ⟨rs.take k, SlFr.of (SlAt.take (SlFr.at h1) hk), ?_⟩
  refine ⟨by rw [List.length_take, List.length_take, h2.1], fun j x y hx hy => ?_⟩
  obtain ⟨h3, hx⟩ := get_take hx
  obtain ⟨_, hy⟩ := get_take hy
  obtain ⟨g1, g2⟩ := h2.2 j x y hx hy
  exact ⟨g1.mono (fun _ _ g => g.mono (Nat.zero_le _)), g2⟩
theorem IfsQ.takeS {Q : Value → List Sp → Prop} {lo : Nat} {w : World} {a : Option Addr} {n cap : Nat} {fs : List Ft} (h : IfsQ Q lo w (.slice a n cap) fs) {k : Nat} (hk : k ≤ n) : IfsQ Q 0 w (.slice a k cap) (fs.take k) := by
  obtain ⟨rs, h1, h2⟩ := h
  refine ⟨rs.take k, SlFr.of (SlAt.take (SlFr.at h1) hk), ?_⟩
  refine ⟨by rw [List.length_take, List.length_take, h2.1], fun j x y hx hy => ?_⟩
  obtain ⟨h3, hx⟩ := get_take hx
  obtain ⟨_, hy⟩ := get_take hy
  exact h2.2 j x y hx hy
theorem IfsQ.kept {X : Nat → Prop} {lo : Nat} {w w' : World} {v : Value} {fs : List Ft} (h : IfsQ (SpV X w) lo w v fs) (hb : Below w.heap.size w w') : IfsQ (SpV X w') lo w' v fs :=
  let ⟨rs, h1, h2⟩ := h
  ⟨rs, h1.below hb, h2.mono (fun _ _ g => ⟨g.1.mono (fun _ _ q => q.below hb), g.2⟩)⟩
theorem QSl.spv (X : Nat → Prop) (w : World) : QSl (SpV X w) := fun v xs h => QSl.sps 0 w v xs h.1
theorem Ifs.x {lo : Nat} {w : World} {v : Value} {fs : List Ft} (h : Ifs lo w v fs) : IfsQ (SpV (fun _ => False) w) lo w v fs :=
  let ⟨rs, h1, h2⟩ := h
  ⟨rs, h1, h2.mono (fun _ _ g => ⟨g.1.mono (fun _ _ q => SpV.no q), g.2⟩)⟩
theorem Ifs.old {X : Nat → Prop} {lo : Nat} {w0 w : World} {v : Value} {fs : List Ft} (h : Ifs lo w0 v fs) (hb : Below w0.heap.size w0 w) (hX : ∀ k, X k → w0.heap.size ≤ k) : IfsQ (SpV X w) lo w v fs :=
  let ⟨rs, h1, h2⟩ := h
  ⟨rs, h1.below hb, h2.mono (fun _ _ g => ⟨g.1.mono (fun _ _ q => SpV.old q hb hX), g.2⟩)⟩
theorem wheresX_any {X : Nat → Prop} {lo : Nat} (fs : List Ft) (v : Value) (w : World) (hs : IfsQ (SpV X w) lo w v fs) (hl : fs.length ≤ 1000000) :
    Calls Tryd.prog 53 #[v] w fun e w' => ∃ v', e = .returned v' ∧ IssX X w' v' (fboxes fs) ∧ Below w.heap.size w w' := by
  refine (wheresQ_any (QSl.spv X w) fs v w hs hl).mono ?_
  rintro e w' ⟨v', rfl, ⟨rs, h1, h2⟩, hb⟩
  exact ⟨v', rfl, ⟨rs, h1, h2.mono (fun r b h => (All2.mono h (fun _ _ h => h.below hb) : All2 _ _ _))⟩, hb⟩
theorem less_r {X : Nat → Prop} {b : Bx} {xs : List Bx} {v0 v1 v2 v3 v : Value} {w : World} {R : Option (List Bx)} (h : blessB b xs = R) (ht : Tab w) (hXX : ∀ k, X k → k < w.heap.size) (hs : All2 (SpV X w) [v0, v1, v2, v3] b) (hr : IssX X w v xs) (hb : bvalid b = true) (hx : ∀ z ∈ xs, bvalid z = true) :
    Calls Tryd.prog 67 #[.agg #[v0, v1, v2, v3], v] w fun e w' => ∃ z, e = .returned (.tuple #[z, .bool R.isSome]) ∧ (∀ ys, R = some ys → IssX X w' z ys) ∧ Below w.heap.size w w' := by
  subst h
  exact lessX_any b xs v0 v1 v2 v3 v w ht hXX hs hr hb (fun k x hk => hx x (List.mem_of_getElem? hk))
set_option maxHeartbeats 2000000 in
set_option maxRecDepth 100000 in
theorem liveX_any {X : Nat → Prop} {lo : Nat} (fs : List Ft) (v : Value) (k : Nat) (w : World) (ht : Tab w) (hXX : ∀ k, X k → k < w.heap.size) (hs : IfsQ (SpV X w) lo w v fs) (hv : fvalid fs = true) (hk : k < fs.length) :
    Calls Tryd.prog 81 #[v, .int .i64 (k : Int)] w fun e w' => ∃ z, e = .returned (.tuple #[z, .bool (livek fs k).isSome]) ∧ (∀ ys, livek fs k = some ys → IssX X w' z ys) ∧ Below w.heap.size w w' := by
  obtain ⟨a, cap, rfl, hlc, hcm⟩ := hs.form
  unfold maxLen at hcm
  generalize hn : fs.length = n at *
  have HN := Lib.hid hn
  obtain ⟨f, hx⟩ : ∃ f, fs[k]? = some f := ⟨_, List.getElem?_eq_getElem (by omega)⟩
  obtain ⟨b, o, v0, v1, v2, v3, rfl, hbl, c0, c1, c2, c3, c4, hss⟩ := hs.at hx
  have i1 : (k : Int) < (n : Int) := by omega
  have i2 : (0 : Int) ≤ (k : Int) := by omega
  have i3 : (k : Int) ≤ (cap : Int) := by omega
  have HS := Lib.hid hs
  have HT := Lib.hid (IfsQ.takeS hs (Nat.le_of_lt hk))
  have HSS := Lib.hid hss
  have HX := Lib.hid hx
  have HV := Lib.hid hv
  obtain ⟨R, hR⟩ : ∃ R, livek fs k = R := ⟨_, rfl⟩
  have HR := Lib.hid (show blessB f.box (fboxes (fs.take k)) = R by rw [← hR]; unfold livek; rw [hx])
  rw [hR]
  have HL := Lib.hid (show (fs.take k).length ≤ 1000000 by have := fvalid_60 hv; rw [List.length_take]; omega)
  clear hs hss hx hn hR
  go_enter Tryd.func81, Tryd.ntmps81
  go_wp2_with fail
  (refine wp_region_bel (W := w) [BIs (.slice (some ⟨b, o, none⟩) n cap), BIs (.int .i64 (k : Int)), BIs (.pointer (some ⟨b, o + k * 5, none⟩)), BIs (.pointer (some ⟨b, o + k * 5, none⟩)), BIs (.agg #[v0, v1, v2, v3]), BIs (.slice (some ⟨b, o, none⟩) n cap), BIs (.int .i64 (k : Int)), BIs (.slice (some ⟨b, o, none⟩) k cap), (fun w v => IssX X w v (fboxes (fs.take k))), (fun w v => ∃ z, v = .tuple #[z, .bool R.isSome] ∧ ∀ ys, R = some ys → IssX X w z ys), (fun w z => ∀ ys, R = some ys → IssX X w z ys), BIs (.bool R.isSome), (fun w z => ∀ ys, R = some ys → IssX X w z ys), BIs (.bool R.isSome)] (by kernel_rfl) (fun u => by simp only [frU, Act.put, List.setIfInBounds_toArray, List.set_cons_succ, List.set_cons_zero, Nat.zero_add, Nat.reduceAdd]; exact rfl) (by kernel_rfl) ⟨bst_is _, bst_is _, bst_is _, bst_is _, bst_is _, bst_is _, bst_is _, bst_is _, (fun _ _ _ hb h => h.below hb), (fun _ _ _ hb ⟨z, h1, h2⟩ => ⟨z, h1, fun ys hy => (h2 ys hy).below hb⟩), (fun _ _ _ hb h ys hy => (h ys hy).below hb), bst_is _, (fun _ _ _ hb h ys hy => (h ys hy).below hb), bst_is _, trivial⟩ ?_ ?_; exact ⟨stB rfl (fun u w3 hC hd Q K hK => by (go_step; exact hK _ _ rfl (Below.refl _ _) rfl)), stB rfl (fun u w3 hC hd Q K hK => by (go_step; exact hK _ _ rfl (Below.refl _ _) rfl)), stB rfl (fun u w3 hC hd Q K hK => by (have hu := bis (w := w3) (hd 0 rfl); rw [hu] at hK ⊢; clear hu; have hu := bis (w := w3) (hd 1 rfl); rw [hu] at hK ⊢; clear hu; go_step; exact hK _ _ rfl (Below.refl _ _) rfl)), stB rfl (fun u w3 hC hd Q K hK => by (have hu := bis (w := w3) (hd 2 rfl); rw [hu] at hK ⊢; clear hu; go_step; exact hK _ _ rfl (Below.refl _ _) rfl)), stB rfl (fun u w3 hC hd Q K hK => by (have hu := bis (w := w3) (hd 3 rfl); rw [hu] at hK ⊢; clear hu; have z0 := (hC.cell (p := ⟨b, o + k * 5, none⟩) hbl).trans c0; have z1 := (hC.cell (p := ⟨b, o + k * 5 + 1, none⟩) hbl).trans c1; have z2 := (hC.cell (p := ⟨b, o + k * 5 + 2, none⟩) hbl).trans c2; have z3 := (hC.cell (p := ⟨b, o + k * 5 + 3, none⟩) hbl).trans c3; go_step; exact hK _ _ rfl (Below.refl _ _) rfl)), stB rfl (fun u w3 hC hd Q K hK => by (go_step; exact hK _ _ rfl (Below.refl _ _) rfl)), stB rfl (fun u w3 hC hd Q K hK => by (go_step; exact hK _ _ rfl (Below.refl _ _) rfl)), stB rfl (fun u w3 hC hd Q K hK => by (have hu := bis (w := w3) (hd 5 rfl); rw [hu] at hK ⊢; clear hu; have hu := bis (w := w3) (hd 6 rfl); rw [hu] at hK ⊢; clear hu; go_step; exact hK _ _ rfl (Below.refl _ _) rfl)), stB rfl (fun u w3 hC hd Q K hK => by (have hu := bis (w := w3) (hd 7 rfl); rw [hu] at hK ⊢; clear hu; go_step; refine (wheresX_any (fs.take k) _ _ (HT.out.kept hC) HL.out).mono ?_; rintro e w4 ⟨z4, rfl, ho4, hb4⟩; exact hK _ _ rfl hb4 ho4)), stB rfl (fun u w3 hC hd Q K hK => by (have hu := bis (w := w3) (hd 4 rfl); rw [hu] at hK ⊢; clear hu; have ho1 := hd 8 rfl; generalize u 8 = v1 at *; go_step; refine (less_r HR.out (ht.below hC) (fun k hk => by have := hXX k hk; have := hC.size; omega) (HSS.out.mono (fun _ _ g => g.below hC)) ho1 (fvalid_at HV.out HX.out) (fboxes_valid (fvalid_take HV.out k))).mono ?_; rintro e w4 ⟨z4, rfl, ho4, hb4⟩; exact hK _ _ rfl hb4 ⟨z4, rfl, ho4⟩)), stB rfl (fun u w3 hC hd Q K hK => by (obtain ⟨z, hu, hz⟩ := hd 9 rfl; rw [hu] at hK ⊢; clear hu; go_step; exact hK _ _ rfl (Below.refl _ _) hz)), stB rfl (fun u w3 hC hd Q K hK => by (obtain ⟨z, hu, hz⟩ := hd 9 rfl; rw [hu] at hK ⊢; clear hu; go_step; exact hK _ _ rfl (Below.refl _ _) rfl)), stB rfl (fun u w3 hC hd Q K hK => by (have h2 := hd 10 rfl; generalize u 10 = v2 at *; go_step; exact hK _ _ rfl (Below.refl _ _) h2)), stB rfl (fun u w3 hC hd Q K hK => by (have hu := bis (w := w3) (hd 11 rfl); rw [hu] at hK ⊢; clear hu; go_step; exact hK _ _ rfl (Below.refl _ _) rfl)), trivial⟩); intro u w9 hb_w9 hF; rw [bis (w := w9) (hF 0 (by decide))]; rw [bis (w := w9) (hF 1 (by decide))]; rw [bis (w := w9) (hF 2 (by decide))]; rw [bis (w := w9) (hF 3 (by decide))]; rw [bis (w := w9) (hF 4 (by decide))]; rw [bis (w := w9) (hF 5 (by decide))]; rw [bis (w := w9) (hF 6 (by decide))]; rw [bis (w := w9) (hF 7 (by decide))]; generalize u 8 = vx8 at *; generalize u 9 = vx9 at *; generalize u 10 = vx10 at *; rw [bis (w := w9) (hF 11 (by decide))]; have hz8 := hF 12 (by decide); generalize u 12 = z8 at *; rw [bis (w := w9) (hF 13 (by decide))]; clear hF
  have HZ := Lib.hid hz8
  go_wp2
  go_ret2
  exact ⟨_, rfl, HZ.out, hb_w9⟩
theorem liveOf_any {lo : Nat} (fs : List Ft) (v : Value) (k : Nat) (w : World) (ht : Tab w) (hs : Ifs lo w v fs) (hv : fvalid fs = true) (hk : k < fs.length) :
    Calls Tryd.prog 81 #[v, .int .i64 (k : Int)] w fun e w' => ∃ z, e = .returned (.tuple #[z, .bool (livek fs k).isSome]) ∧ (∀ ys, livek fs k = some ys → Iss 0 w' z ys) ∧ Below w.heap.size w w' := by
  refine (liveX_any (X := fun _ => False) fs v k w ht (fun _ h => h.elim) hs.x hv hk).mono ?_
  rintro e w' ⟨z, rfl, h, hb⟩
  exact ⟨z, rfl, fun ys hy => (h ys hy).iss, hb⟩
def ROk (bs : List Bx) (k : Nat) : Prop := ∀ (i : Nat) b, i < k → bs[i]? = some b → bvalid b = true
theorem ROk.step {bs : List Bx} {k : Nat} {b : Bx} (h : ROk bs k) (hx : bs[k]? = some b) (hv : bvalid b = true) : ROk bs (k + 1) := fun i c hi hc => by
  by_cases e : i = k
  · subst e; rw [hx] at hc; cases hc; exact hv
  · exact h i c (by omega) hc
/-- An append to a list of the call's own, of whatever list. -/
theorem own_append_all {α : Type} {sz : Nat} {enc : α → List Value} (hsz : 0 < sz) (henc : ∀ x, (enc x).length = sz) {P : Program} {lo : Nat} {w : World} (t ty e : TypeId) (i : TypeInfo) (z : Value) (bytes : Nat) (ht : P.underlying t = some (.slice e)) (hi : P.info? e = some i) (hz : i.zero = some z)
    (hsize : i.size = sz) (hby : i.bytes = bytes) (hzs : z.cells.size = sz) {v vx : Value} {ys zs : List α} (hone : ∀ u ∈ zs.flatMap enc, u.oneCell' = true) (ho : OwnSl lo e sz enc w v ys)
    (hs : SlAt sz enc w vx zs) (hbytes : (ys.length + zs.length) * bytes ≤ 140737488355328) (hmax : ys.length + zs.length ≤ maxLen) (hlo : lo ≤ w.heap.size) :
    ∃ v' w', (Builtin.append_ #[t, t] ty #[v, vx]).run P w = .ok v' w' ∧ OwnSl lo e sz enc w' v' (ys ++ zs) ∧ w.grownBy w' v.ownBlock ∧ ∀ x, v'.ownBlock = some x → v.ownBlock = some x ∨ x = w.heap.size := by
  obtain ⟨a, cap, rfl, h1, h2, hx⟩ := id hs
  by_cases hn : zs = []
  · subst hn
    rcases ho.form with ⟨rfl, rfl⟩ | ⟨g, cp, rfl, _, _, hcp, _, _⟩
    · exact ⟨_, w, run_append_nothing t ty e i ht hi none a 0 0 (Nat.le_refl _) cap (fun _ => ⟨rfl, rfl⟩), by simpa using ho, World.grownBy.refl _ _, fun x hx => .inl hx⟩
    · exact ⟨_, w, run_append_nothing t ty e i ht hi (some ⟨g, 0, none⟩) a _ _ hcp cap (fun h => by cases h), by simpa using ho, World.grownBy.refl _ _, fun x hx => .inl hx⟩
  · have hlen : 0 < zs.length := List.length_pos_iff.2 hn
    obtain ⟨b, o, ha, _, _⟩ := hx 0 zs[0] (List.getElem?_eq_getElem hlen)
    subst ha
    obtain ⟨g5, cap5, w5, hrun, hown5, hgr5, hat5, _⟩ := run_append_lies (P := P) (w := w) t ty lo e i z sz bytes ht hi hz hsize hby hzs hsz v ys.length _ ho ⟨b, o, none⟩ zs.length cap (zs.flatMap enc) (length_flatMap henc zs) (hs.flat hsz henc) hone hlen hmax hbytes hlo w.heap.size rfl
    refine ⟨_, w5, hrun, ?_, hgr5, fun x hx => by cases hx; exact hat5⟩
    unfold OwnSl
    rw [List.length_append, List.flatMap_append]
    exact hown5
/-- Boxes whose sets lie in no block of X (the reference's form). -/
def BxsV (X : Nat → Prop) (w : World) (v : Value) (bs : List Bx) : Prop := ∃ vs, SlV X 1 enc1 w v vs ∧ All2 (RwV X w) vs bs
theorem BxsV.bxs {X : Nat → Prop} {w : World} {v : Value} {bs : List Bx} (h : BxsV X w v bs) : Bxs 0 w v bs :=
  let ⟨vs, h1, h2⟩ := h
  ⟨vs, h1.1, h2.mono (fun _ _ g => g.rws)⟩
theorem BxsV.keep {X X' : Nat → Prop} {w w' : World} {v : Value} {bs : List Bx} (h : BxsV X w v bs) (hz : w.heap.size ≤ w'.heap.size) (hk : ∀ k, k < w.heap.size → ¬ X k → w'.heap[k]? = w.heap[k]? ∧ ¬ X' k) : BxsV X' w' v bs :=
  let ⟨vs, h1, h2⟩ := h
  ⟨vs, h1.keep hz hk, h2.mono (fun _ _ g => g.keep hz hk)⟩
theorem BxsV.below {X : Nat → Prop} {w w' : World} {v : Value} {bs : List Bx} (h : BxsV X w v bs) (hb : Below w.heap.size w w') : BxsV X w' v bs := h.keep hb.size (fun k k1 k2 => ⟨hb.block k k1, k2⟩)
theorem BxsV.form {X : Nat → Prop} {w : World} {v : Value} {bs : List Bx} (h : BxsV X w v bs) : ∃ a cap, v = .slice a bs.length cap ∧ bs.length ≤ cap ∧ cap ≤ maxLen := h.bxs.form
theorem BxsV.at {X : Nat → Prop} {w : World} {a : Option Addr} {n cap : Nat} {bs : List Bx} (h : BxsV X w (.slice a n cap) bs) {k : Nat} {f : Bx} (hk : bs[k]? = some f) :
    ∃ b o sv, a = some ⟨b, o, none⟩ ∧ b < w.heap.size ∧ w.cell? ⟨b, o + k, none⟩ = some sv ∧ RwV X w sv f := by
  obtain ⟨rs, ⟨⟨a', cap', he, _, _, hx⟩, _⟩, h2⟩ := h
  obtain ⟨rfl, _, _⟩ := Value.slice.inj he
  obtain ⟨r, hr, hs⟩ := h2.left hk
  obtain ⟨b, o, ha, _, hb, hc⟩ := hx k r hr
  exact ⟨b, o, r, ha, hb, by simpa using hc 0 _ rfl, hs⟩
theorem RwV.older {P X : Nat → Prop} {w0 w : World} {v : Value} {b : Bx} (h : RwV X w0 v b) (hb : Below w0.heap.size w0 w) (hP : ∀ k, P k → w0.heap.size ≤ k ∨ X k) : RwV P w v b :=
  h.keep hb.size (fun k k1 k2 => ⟨hb.block k k1, fun hk => (hP k hk).elim (fun h => by omega) k2⟩)
theorem RwV.all {lo : Nat} {w : World} {v : Value} {b : Bx} (h : Rws lo w v b) : RwV (fun _ => False) w v b := RwV.old h (Below.refl _ _) (fun _ h => h.elim)
theorem Fts.takeS {lo : Nat} {w : World} {a : Option Addr} {n cap : Nat} {fs : List Ft} (h : Fts lo w (.slice a n cap) fs) {k : Nat} (hk : k ≤ n) : Fts 0 w (.slice a k cap) (fs.take k) := by
  obtain ⟨rs, h1, h2⟩ := h
  refine ⟨rs.take k, SlFr.of (SlAt.take (SlFr.at h1) hk), ?_⟩
  refine ⟨by rw [List.length_take, List.length_take, h2.1], fun j x y hx hy => ?_⟩
  obtain ⟨h3, hx⟩ := get_take hx
  obtain ⟨_, hy⟩ := get_take hy
  obtain ⟨g1, g2⟩ := h2.2 j x y hx hy
  exact ⟨g1.mono (Nat.zero_le _), g2⟩
end Go.Proofs.YtajcogpfmpehkaaDoor
