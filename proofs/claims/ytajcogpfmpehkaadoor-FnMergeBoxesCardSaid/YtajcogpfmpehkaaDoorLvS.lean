/- Live parts of rules: both walks; what a region leaves (reference). -/
import Derived.Test.YtajcogpfmpehkaaDoorRgCL
import Derived.Test.YtajcogpfmpehkaaDoorLvP
import Derived.Deep.DeepCutAuto
import Derived.Test.YtajcogpfmpehkaaDoorRsC
import Derived.Test.YtajcogpfmpehkaaDoorRgX
import Derived.Test.YtajcogpfmpehkaaDoorFnX
import Derived.Test.YtajcogpfmpehkaaDoorFtW
namespace Go.Proofs.YtajcogpfmpehkaaDoor
open Go.RowKit
theorem IfsQ.kept {X : Nat → Prop} {lo : Nat} {w w' : World} {v : Value} {fs : List Ft} (h : IfsQ (SpV X w) lo w v fs) (hb : Below w.heap.size w w') : IfsQ (SpV X w') lo w' v fs :=
  let ⟨rs, h1, h2⟩ := h
  ⟨rs, h1.below hb, h2.mono (fun _ _ g => ⟨g.1.mono (fun _ _ q => q.below hb), g.2⟩)⟩
theorem Ifs.x {lo : Nat} {w : World} {v : Value} {fs : List Ft} (h : Ifs lo w v fs) : IfsQ (SpV (fun _ => False) w) lo w v fs :=
  let ⟨rs, h1, h2⟩ := h
  ⟨rs, h1, h2.mono (fun _ _ g => ⟨g.1.mono (fun _ _ q => SpV.no q), g.2⟩)⟩
theorem Ifs.old {X : Nat → Prop} {lo : Nat} {w0 w : World} {v : Value} {fs : List Ft} (h : Ifs lo w0 v fs) (hb : Below w0.heap.size w0 w) (hX : ∀ k, X k → w0.heap.size ≤ k) : IfsQ (SpV X w) lo w v fs :=
  let ⟨rs, h1, h2⟩ := h
  ⟨rs, h1.below hb, h2.mono (fun _ _ g => ⟨g.1.mono (fun _ _ q => SpV.old q hb hX), g.2⟩)⟩
def ROk (bs : List Bx) (k : Nat) : Prop := ∀ (i : Nat) b, i < k → bs[i]? = some b → bvalid b = true
theorem ROk.step {bs : List Bx} {k : Nat} {b : Bx} (h : ROk bs k) (hx : bs[k]? = some b) (hv : bvalid b = true) : ROk bs (k + 1) := fun i c hi hc => by
  by_cases e : i = k
  · subst e; rw [hx] at hc; cases hc; exact hv
  · exact h i c (by omega) hc
theorem rvalid_yes {bs : List Bx} (h : ROk bs bs.length) : rvalid bs = decide (bs.length ≤ 400) := by
  unfold rvalid
  have : bs.all bvalid = true := by
    rw [List.all_eq_true]
    intro b hb
    obtain ⟨i, hi⟩ := List.getElem?_of_mem hb
    exact h i b (List.getElem?_eq_some_iff.1 hi).1 hi
  rw [this, Bool.and_true]
theorem rvalid_no {bs : List Bx} {k : Nat} {b : Bx} (hx : bs[k]? = some b) (hv : bvalid b = false) : rvalid bs = false := by
  rw [← Bool.not_eq_true]
  intro h
  rw [(rvalid_all h).2 b (List.mem_of_getElem? hx)] at hv
  cases hv
/-- An append to a list of the call's own, of whatever list. -/
theorem own_append_all {α : Type} {sz : Nat} {enc : α → List Value} (hsz : 0 < sz) (henc : ∀ x, (enc x).length = sz) {P : Program} {lo : Nat} {w : World} (t ty e : TypeId) (i : TypeInfo) (z : Value) (bytes : Nat) (ht : P.underlying t = some (.slice e)) (hi : P.info? e = some i) (hz : i.zero = some z)
    (hsize : i.size = sz) (hby : i.bytes = bytes) (hzs : z.cells.size = sz) {v vx : Value} {ys zs : List α} (hone : ∀ u ∈ zs.flatMap enc, u.oneCell' = true) (ho : OwnSl lo e sz enc w v ys)
    (hs : SlAt sz enc w vx zs) (hbytes : (ys.length + zs.length) * bytes ≤ 140737488355328) (hmax : ys.length + zs.length ≤ maxLen) (hlo : lo ≤ w.heap.size) :
    ∃ v' w', (Builtin.append_ #[t, t] ty #[v, vx]).run P w = .ok v' w' ∧ OwnSl lo e sz enc w' v' (ys ++ zs) ∧ w.grownBy w' v.ownBlock ∧ ∀ x, v'.ownBlock = some x → v.ownBlock = some x ∨ x = w.heap.size := by
  obtain ⟨a, cap, rfl, h1, h2, hx⟩ := id hs
  by_cases hn : zs = []
  · subst hn
    rcases ho.form with ⟨rfl, rfl⟩ | ⟨g, cp, rfl, _, _, hcp, _, _⟩
    · exact ⟨_, w, run_append_nothing t ty e i ht hi none a 0 0 (Nat.le_refl _) cap (fun _ => ⟨rfl, rfl⟩), by simpa using ho, World.grownBy.refl _ _, fun x hx => .inl hx⟩
    · exact ⟨_, w, run_append_nothing t ty e i ht hi (some ⟨g, 0, none⟩) a _ _ hcp cap (fun h => by cases h), by simpa using ho, World.grownBy.refl _ _, fun x hx => .inl hx⟩
  · have hlen : 0 < zs.length := List.length_pos_iff.2 hn
    obtain ⟨b, o, ha, _, _⟩ := hx 0 zs[0] (List.getElem?_eq_getElem hlen)
    subst ha
    obtain ⟨g5, cap5, w5, hrun, hown5, hgr5, hat5, _⟩ := run_append_lies (P := P) (w := w) t ty lo e i z sz bytes ht hi hz hsize hby hzs hsz v ys.length _ ho ⟨b, o, none⟩ zs.length cap (zs.flatMap enc) (length_flatMap henc zs) (hs.flat hsz henc) hone hlen hmax hbytes hlo w.heap.size rfl
    refine ⟨_, w5, hrun, ?_, hgr5, fun x hx => by cases hx; exact hat5⟩
    unfold OwnSl
    rw [List.length_append, List.flatMap_append]
    exact hown5
theorem grown_self {w w2 : World} {r : Option Nat} (h : w.grownBy w2 r) : w.heap.size ≤ w2.heap.size ∧ ∀ k, k < w.heap.size → some k ≠ r → w2.heap[k]? = w.heap[k]? := ⟨h.size, h.block⟩
/-- Boxes whose sets lie in no block of X (the reference's form). -/
def BxsV (X : Nat → Prop) (w : World) (v : Value) (bs : List Bx) : Prop := ∃ vs, SlV X 1 enc1 w v vs ∧ All2 (RwV X w) vs bs
theorem BxsV.bxs {X : Nat → Prop} {w : World} {v : Value} {bs : List Bx} (h : BxsV X w v bs) : Bxs 0 w v bs :=
  let ⟨vs, h1, h2⟩ := h
  ⟨vs, h1.1, h2.mono (fun _ _ g => g.rws)⟩
theorem BxsV.keep {X X' : Nat → Prop} {w w' : World} {v : Value} {bs : List Bx} (h : BxsV X w v bs) (hz : w.heap.size ≤ w'.heap.size) (hk : ∀ k, k < w.heap.size → ¬ X k → w'.heap[k]? = w.heap[k]? ∧ ¬ X' k) : BxsV X' w' v bs :=
  let ⟨vs, h1, h2⟩ := h
  ⟨vs, h1.keep hz hk, h2.mono (fun _ _ g => g.keep hz hk)⟩
theorem BxsV.below {X : Nat → Prop} {w w' : World} {v : Value} {bs : List Bx} (h : BxsV X w v bs) (hb : Below w.heap.size w w') : BxsV X w' v bs := h.keep hb.size (fun k k1 k2 => ⟨hb.block k k1, k2⟩)
theorem BxsV.form {X : Nat → Prop} {w : World} {v : Value} {bs : List Bx} (h : BxsV X w v bs) : ∃ a cap, v = .slice a bs.length cap ∧ bs.length ≤ cap ∧ cap ≤ maxLen := h.bxs.form
theorem BxsV.at {X : Nat → Prop} {w : World} {a : Option Addr} {n cap : Nat} {bs : List Bx} (h : BxsV X w (.slice a n cap) bs) {k : Nat} {f : Bx} (hk : bs[k]? = some f) :
    ∃ b o sv, a = some ⟨b, o, none⟩ ∧ b < w.heap.size ∧ w.cell? ⟨b, o + k, none⟩ = some sv ∧ RwV X w sv f := by
  obtain ⟨rs, ⟨⟨a', cap', he, _, _, hx⟩, _⟩, h2⟩ := h
  obtain ⟨rfl, _, _⟩ := Value.slice.inj he
  obtain ⟨r, hr, hs⟩ := h2.left hk
  obtain ⟨b, o, ha, _, hb, hc⟩ := hx k r hr
  exact ⟨b, o, r, ha, hb, by simpa using hc 0 _ rfl, hs⟩
theorem BxX.bv {X : Nat → Prop} {lo : Nat} {w : World} {v : Value} {bs : List Bx} (h : BxX X lo w v bs) (hX : ∀ k, X k → k < lo) : BxsV X w v bs := by
  obtain ⟨vs, h1, h2⟩ := h
  exact ⟨vs, SlV.high (OwnSl.fr (sz := 1) (enc := enc1) (fun _ => rfl) h1) hX, h2.mono (fun _ _ g => g.sub (fun k hk => .inr hk))⟩
theorem RwV.older {P X : Nat → Prop} {w0 w : World} {v : Value} {b : Bx} (h : RwV X w0 v b) (hb : Below w0.heap.size w0 w) (hP : ∀ k, P k → w0.heap.size ≤ k ∨ X k) : RwV P w v b :=
  h.keep hb.size (fun k k1 k2 => ⟨hb.block k k1, fun hk => (hP k hk).elim (fun h => by omega) k2⟩)
theorem RwV.all {lo : Nat} {w : World} {v : Value} {b : Bx} (h : Rws lo w v b) : RwV (fun _ => False) w v b := RwV.old h (Below.refl _ _) (fun _ h => h.elim)
end Go.Proofs.YtajcogpfmpehkaaDoor
