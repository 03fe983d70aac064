/- Ties, boxes of rules, FlatBoxes; tails. -/
import Derived.Test.YtajcogpfmpehkaaDoorFtW
import Derived.Test.YtajcogpfmpehkaaDoorDt
import Derived.Deep.AppendLies
import Derived.Deep.RegionLaw
import Derived.Test.YtajcogpfmpehkaaDoorDxAJ
namespace Go.Proofs.YtajcogpfmpehkaaDoor
open Go.RowKit
/-- Whether rules a and b are tied, as the program asks: the later one first. -/
def tieM (fs : List Ft) (a b : Nat) : Bool := if a = b then false else tiedAt fs (max a b) (min a b)
/-- What is known behind i rows and j columns. -/
def kn (i j r c : Nat) : Bool := decide ((r < i ∧ c < i) ∨ (r = i ∧ c < j) ∨ (c = i ∧ r < j))
def tieRow (fs : List Ft) (n i j r : Nat) : List Bool := (List.range n).map fun c => kn i j r c && tieM fs r c
def tieAll (fs : List Ft) (n i j : Nat) : List (List Bool) := (List.range n).map fun r => if r ≤ i then tieRow fs n i j r else []
/-- The whole graph. -/
def ties (fs : List Ft) : List (List Bool) := (List.range fs.length).map fun r => (List.range fs.length).map fun c => tieM fs r c
/-- Rules in another order, by their numbers. -/
def arr (fs : List Ft) (o : List Nat) : List Ft := o.filterMap fun i => fs[i]?
/-- A rule moved up. -/
def lift1 : Nat → List Ft → List Ft × Nat
  | 0, fs => (fs, 0)
  | n + 1, fs => if cansw fs n then lift1 n (swapAt fs n) else (fs, n + 1)
def lift (fs : List Ft) (n : Int) : List Ft × Int := if fvalid fs && inB n 0 ((fs.length : Int) - 1) then ((lift1 n.toNat fs).1, ((lift1 n.toNat fs).2 : Int)) else ([], -1)
structure R4 where
  v0 : Value
  v1 : Value
  v2 : Value
  v3 : Value
abbrev R4.enc (r : R4) : List Value := [r.v0, r.v1, r.v2, r.v3]
def R4.ok (lo : Nat) (w : World) (r : R4) (b : Bx) : Prop := All2 (Sps lo w) [r.v0, r.v1, r.v2, r.v3] b
def Iss (lo : Nat) (w : World) (v : Value) (bs : List Bx) : Prop := ∃ rs, SlFr lo 4 R4.enc w v rs ∧ All2 (R4.ok lo w) rs bs
theorem Iss.below {lo : Nat} {w w' : World} {v : Value} {bs : List Bx} (h : Iss lo w v bs) (hb : Below w.heap.size w w') : Iss lo w' v bs :=
  let ⟨rs, h1, h2⟩ := h
  ⟨rs, h1.below hb, h2.mono (fun _ _ h => (h.mono (fun _ _ h => h.below hb) : All2 _ _ _))⟩
theorem Iss.form {lo : Nat} {w : World} {v : Value} {bs : List Bx} (h : Iss lo w v bs) : ∃ a cap, v = .slice a bs.length cap ∧ bs.length ≤ cap ∧ cap ≤ maxLen := by
  obtain ⟨rs, ⟨a, cap, rfl, h1, h2, _⟩, h3⟩ := h
  exact ⟨a, cap, by rw [h3.1], by rw [← h3.1]; exact h1, h2⟩
theorem Iss.at {lo : Nat} {w : World} {a : Option Addr} {n cap : Nat} {bs : List Bx} (h : Iss lo w (.slice a n cap) bs) {k : Nat} {f : Bx} (hk : bs[k]? = some f) :
    ∃ b o v0 v1 v2 v3, a = some ⟨b, o, none⟩ ∧ b < w.heap.size ∧ w.cell? ⟨b, o + k * 4, none⟩ = some v0 ∧ w.cell? ⟨b, o + k * 4 + 1, none⟩ = some v1 ∧ w.cell? ⟨b, o + k * 4 + 2, none⟩ = some v2 ∧ w.cell? ⟨b, o + k * 4 + 3, none⟩ = some v3 ∧ All2 (Sps lo w) [v0, v1, v2, v3] f := by
  obtain ⟨rs, ⟨a', cap', he, _, _, hx⟩, h2⟩ := h
  obtain ⟨rfl, _, _⟩ := Value.slice.inj he
  obtain ⟨r, hr, hs⟩ := h2.left hk
  obtain ⟨b, o, ha, _, hb, hc⟩ := hx k r hr
  exact ⟨b, o, r.v0, r.v1, r.v2, r.v3, ha, hb, by simpa using hc 0 _ rfl, hc 1 _ rfl, hc 2 _ rfl, hc 3 _ rfl, hs⟩
theorem infoBx : (Tryd.prog.info? 32).map (fun i => (i.zero, i.size, i.bytes)) = some (some (.agg #[.slice none 0 0]), 1, 24) := by kernel_rfl
def fboxes (fs : List Ft) : List Bx := fs.map Ft.box
/-- Rules inside the program whose sets are as Q says. -/
def IfsQ (Q : Value → List Sp → Prop) (lo : Nat) (w : World) (v : Value) (fs : List Ft) : Prop := ∃ rs, SlFr lo 5 R5.enc w v rs ∧ All2 (fun (r : R5) (f : Ft) => All2 Q [r.v0, r.v1, r.v2, r.v3] f.box ∧ r.acc = f.acc) rs fs
theorem Ifs.q {lo : Nat} {w : World} {v : Value} {fs : List Ft} (h : Ifs lo w v fs) : IfsQ (Sps lo w) lo w v fs := h
theorem IfsQ.form {Q : Value → List Sp → Prop} {lo : Nat} {w : World} {v : Value} {fs : List Ft} (h : IfsQ Q lo w v fs) : ∃ a cap, v = .slice a fs.length cap ∧ fs.length ≤ cap ∧ cap ≤ maxLen := by
  obtain ⟨vs, ⟨a, cap, rfl, h1, h2, _⟩, h3⟩ := h
  exact ⟨a, cap, by rw [h3.1], by rw [← h3.1]; exact h1, h2⟩
theorem IfsQ.at {Q : Value → List Sp → Prop} {lo : Nat} {w : World} {a : Option Addr} {n cap : Nat} {fs : List Ft} (h : IfsQ Q lo w (.slice a n cap) fs) {k : Nat} {f : Ft} (hk : fs[k]? = some f) :
    ∃ b o v0 v1 v2 v3, a = some ⟨b, o, none⟩ ∧ b < w.heap.size ∧ w.cell? ⟨b, o + k * 5, none⟩ = some v0 ∧ w.cell? ⟨b, o + k * 5 + 1, none⟩ = some v1 ∧ w.cell? ⟨b, o + k * 5 + 2, none⟩ = some v2 ∧ w.cell? ⟨b, o + k * 5 + 3, none⟩ = some v3 ∧
      w.cell? ⟨b, o + k * 5 + 4, none⟩ = some (.bool f.acc) ∧ All2 Q [v0, v1, v2, v3] f.box := by
  obtain ⟨rs, ⟨a', cap', he, _, _, hx⟩, h2⟩ := h
  obtain ⟨rfl, _, _⟩ := Value.slice.inj he
  obtain ⟨r, hr, hs, hacc⟩ := h2.left hk
  obtain ⟨b, o, ha, _, hb, hc⟩ := hx k r hr
  exact ⟨b, o, r.v0, r.v1, r.v2, r.v3, ha, hb, by simpa using hc 0 _ rfl, hc 1 _ rfl, hc 2 _ rfl, hc 3 _ rfl, by rw [← hacc]; exact hc 4 _ rfl, hs⟩
def QSl (Q : Value → List Sp → Prop) : Prop := ∀ v xs, Q v xs → ∃ a n c, v = .slice a n c
theorem QSl.sps (lo : Nat) (w : World) : QSl (Sps lo w) := fun v xs h => by
  obtain ⟨a, c, rfl, -, -⟩ := h.form
  exact ⟨_, _, _, rfl⟩
/-- Boxes in a list of the call's own. -/
def BsO (lo : Nat) (w : World) (v : Value) (bs : List Bx) : Prop :=
  ∃ vs, OwnSl lo 32 1 enc1 w v vs ∧ All2 (fun r b => Rws lo (hole w v.ownBlock) r b) vs bs
theorem BsO.bxs {lo : Nat} {w : World} {v : Value} {bs : List Bx} (h : BsO lo w v bs) : Bxs lo w v bs :=
  let ⟨vs, h1, h2⟩ := h
  ⟨vs, OwnSl.fr (sz := 1) (enc := enc1) (fun _ => rfl) h1, h2.mono (fun _ _ h => h.sub (Sb.out _ _ _))⟩
theorem BsO.push {lo : Nat} {w w2 : World} {v v' : Value} {bs : List Bx} {vs : List Value} {r : Value} {b : Bx} {H : Nat} (h1 : All2 (fun r b => Rws lo (hole w v.ownBlock) r b) vs bs)
    (hr : Rws lo (hole w v.ownBlock) r b) (hg : w.heap.size ≤ w2.heap.size ∧ ∀ k, k < w.heap.size → some k ≠ v.ownBlock → w2.heap[k]? = w.heap[k]?)
    (hown : OwnSl lo 32 1 enc1 w2 v' (vs ++ [r])) (hat : ∀ z, v'.ownBlock = some z → v.ownBlock = some z ∨ z = H) (hH : w.heap.size ≤ H) : BsO lo w2 v' (bs ++ [b]) := by
  have hsb : Sb lo (hole w v.ownBlock) (hole w2 v'.ownBlock) := Sb.hole hg.1 (fun k _ k2 k3 => ⟨fun e => by
    rcases hat k e.symm with h | h
    · exact k3 h.symm
    · omega, hg.2 k k2 k3⟩)
  exact ⟨vs ++ [r], hown, (h1.mono (fun _ _ h => h.sub hsb)).snoc (hr.sub hsb)⟩
def fbx (fs : List Ft) : List Bx := if fvalid fs then fboxes fs else []
end Go.Proofs.YtajcogpfmpehkaaDoor
