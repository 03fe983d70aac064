/- Ties, boxes of rules, FlatBoxes; tails. -/
import Derived.Test.YtajcogpfmpehkaaDoorFtW
import Derived.Test.YtajcogpfmpehkaaDoorDt
import Derived.Deep.AppendLies
import Derived.Deep.RegionLaw
import Derived.Test.YtajcogpfmpehkaaDoorDxAJ
namespace Go.Proofs.YtajcogpfmpehkaaDoor
open Go.RowKit
/-- Whether rules a and b are tied, as the program asks: the later one first. -/
def tieM (fs : List Ft) (a b : Nat) : Bool := if a = b then false else tiedAt fs (max a b) (min a b)
/-- What is known behind i rows and j columns. -/
def kn (i j r c : Nat) : Bool := decide ((r < i ∧ c < i) ∨ (r = i ∧ c < j) ∨ (c = i ∧ r < j))
def tieRow (fs : List Ft) (n i j r : Nat) : List Bool := (List.range n).map fun c => kn i j r c && tieM fs r c
def tieAll (fs : List Ft) (n i j : Nat) : List (List Bool) := (List.range n).map fun r => if r ≤ i then tieRow fs n i j r else []
/-- The whole graph. -/
def ties (fs : List Ft) : List (List Bool) := (List.range fs.length).map fun r => (List.range fs.length).map fun c => tieM fs r c
/-- Rules in another order, by their numbers. -/
def arr (fs : List Ft) (o : List Nat) : List Ft := o.filterMap fun i => fs[i]?
/-- A rule moved up. -/
def lift1 : Nat → List Ft → List Ft × Nat
  | 0, fs => (fs, 0)
  | n + 1, fs => if cansw fs n then lift1 n (swapAt fs n) else (fs, n + 1)
def lift (fs : List Ft) (n : Int) : List Ft × Int := if fvalid fs && inB n 0 ((fs.length : Int) - 1) then ((lift1 n.toNat fs).1, ((lift1 n.toNat fs).2 : Int)) else ([], -1)
structure R4 where
  v0 : Value
  v1 : Value
  v2 : Value
  v3 : Value
abbrev R4.enc (r : R4) : List Value := [r.v0, r.v1, r.v2, r.v3]
def R4.ok (lo : Nat) (w : World) (r : R4) (b : Bx) : Prop := All2 (Sps lo w) [r.v0, r.v1, r.v2, r.v3] b
def Iss (lo : Nat) (w : World) (v : Value) (bs : List Bx) : Prop := ∃ rs, SlFr lo 4 R4.enc w v rs ∧ All2 (R4.ok lo w) rs bs
theorem Iss.below {lo : Nat} {w w' : World} {v : Value} {bs : List Bx} (h : Iss lo w v bs) (hb : Below w.heap.size w w') : Iss lo w' v bs :=
  let ⟨rs, h1, h2⟩ := h
  ⟨rs, h1.below hb, h2.mono (fun _ _ h => (h.mono (fun _ _ h => h.below hb) : All2 _ _ _))⟩
theorem Iss.form {lo : Nat} {w : World} {v : Value} {bs : List Bx} (h : Iss lo w v bs) : ∃ a cap, v = .slice a bs.length cap ∧ bs.length ≤ cap ∧ cap ≤ maxLen := by
  obtain ⟨rs, ⟨a, cap, rfl, h1, h2, _⟩, h3⟩ := h
  exact ⟨a, cap, by rw [h3.1], by rw [← h3.1]; exact h1, h2⟩
theorem Iss.at {lo : Nat} {w : World} {a : Option Addr} {n cap : Nat} {bs : List Bx} (h : Iss lo w (.slice a n cap) bs) {k : Nat} {f : Bx} (hk : bs[k]? = some f) :
    ∃ b o v0 v1 v2 v3, a = some ⟨b, o, none⟩ ∧ b < w.heap.size ∧ w.cell? ⟨b, o + k * 4, none⟩ = some v0 ∧ w.cell? ⟨b, o + k * 4 + 1, none⟩ = some v1 ∧ w.cell? ⟨b, o + k * 4 + 2, none⟩ = some v2 ∧ w.cell? ⟨b, o + k * 4 + 3, none⟩ = some v3 ∧ All2 (Sps lo w) [v0, v1, v2, v3] f := by
  obtain ⟨rs, ⟨a', cap', he, _, _, hx⟩, h2⟩ := h
  obtain ⟨rfl, _, _⟩ := Value.slice.inj he
  obtain ⟨r, hr, hs⟩ := h2.left hk
  obtain ⟨b, o, ha, _, hb, hc⟩ := hx k r hr
  exact ⟨b, o, r.v0, r.v1, r.v2, r.v3, ha, hb, by simpa using hc 0 _ rfl, hc 1 _ rfl, hc 2 _ rfl, hc 3 _ rfl, hs⟩
theorem infoSd : (Tryd.prog.info? 89).map (fun i => (i.zero, i.size, i.bytes)) = some (some (.agg #[.slice none 0 0, .slice none 0 0, .slice none 0 0, .slice none 0 0]), 4, 96) := by kernel_rfl
theorem infoBx : (Tryd.prog.info? 32).map (fun i => (i.zero, i.size, i.bytes)) = some (some (.agg #[.slice none 0 0]), 1, 24) := by kernel_rfl
def fboxes (fs : List Ft) : List Bx := fs.map Ft.box
/-- Rules inside the program whose sets are as Q says. -/
def IfsQ (Q : Value → List Sp → Prop) (lo : Nat) (w : World) (v : Value) (fs : List Ft) : Prop := ∃ rs, SlFr lo 5 R5.enc w v rs ∧ All2 (fun (r : R5) (f : Ft) => All2 Q [r.v0, r.v1, r.v2, r.v3] f.box ∧ r.acc = f.acc) rs fs
theorem Ifs.q {lo : Nat} {w : World} {v : Value} {fs : List Ft} (h : Ifs lo w v fs) : IfsQ (Sps lo w) lo w v fs := h
theorem IfsQ.form {Q : Value → List Sp → Prop} {lo : Nat} {w : World} {v : Value} {fs : List Ft} (h : IfsQ Q lo w v fs) : ∃ a cap, v = .slice a fs.length cap ∧ fs.length ≤ cap ∧ cap ≤ maxLen := by
  obtain ⟨vs, ⟨a, cap, rfl, h1, h2, _⟩, h3⟩ := h
  exact ⟨a, cap, by rw [h3.1], by rw [← h3.1]; exact h1, h2⟩
theorem IfsQ.at {Q : Value → List Sp → Prop} {lo : Nat} {w : World} {a : Option Addr} {n cap : Nat} {fs : List Ft} (h : IfsQ Q lo w (.slice a n cap) fs) {k : Nat} {f : Ft} (hk : fs[k]? = some f) :
    ∃ b o v0 v1 v2 v3, a = some ⟨b, o, none⟩ ∧ b < w.heap.size ∧ w.cell? ⟨b, o + k * 5, none⟩ = some v0 ∧ w.cell? ⟨b, o + k * 5 + 1, none⟩ = some v1 ∧ w.cell? ⟨b, o + k * 5 + 2, none⟩ = some v2 ∧ w.cell? ⟨b, o + k * 5 + 3, none⟩ = some v3 ∧
      w.cell? ⟨b, o + k * 5 + 4, none⟩ = some (.bool f.acc) ∧ All2 Q [v0, v1, v2, v3] f.box := by
  obtain ⟨rs, ⟨a', cap', he, _, _, hx⟩, h2⟩ := h
  obtain ⟨rfl, _, _⟩ := Value.slice.inj he
  obtain ⟨r, hr, hs, hacc⟩ := h2.left hk
  obtain ⟨b, o, ha, _, hb, hc⟩ := hx k r hr
  exact ⟨b, o, r.v0, r.v1, r.v2, r.v3, ha, hb, by simpa using hc 0 _ rfl, hc 1 _ rfl, hc 2 _ rfl, hc 3 _ rfl, by rw [← hacc]; exact hc 4 _ rfl, hs⟩
def QSl (Q : Value → List Sp → Prop) : Prop := ∀ v xs, Q v xs → ∃ a n c, v = .slice a n c
theorem QSl.sps (lo : Nat) (w : World) : QSl (Sps lo w) := fun v xs h => by
  obtain ⟨a, c, rfl, -, -⟩ := h.form
  exact ⟨_, _, _, rfl⟩
/-- Boxes in a list of the call's own. -/
def BsO (lo : Nat) (w : World) (v : Value) (bs : List Bx) : Prop :=
  ∃ vs, OwnSl lo 32 1 enc1 w v vs ∧ All2 (fun r b => Rws lo (hole w v.ownBlock) r b) vs bs
theorem BsO.bxs {lo : Nat} {w : World} {v : Value} {bs : List Bx} (h : BsO lo w v bs) : Bxs lo w v bs :=
  let ⟨vs, h1, h2⟩ := h
  ⟨vs, OwnSl.fr (sz := 1) (enc := enc1) (fun _ => rfl) h1, h2.mono (fun _ _ h => h.sub (Sb.out _ _ _))⟩
theorem BsO.push {lo : Nat} {w w2 : World} {v v' : Value} {bs : List Bx} {vs : List Value} {r : Value} {b : Bx} {H : Nat} (h1 : All2 (fun r b => Rws lo (hole w v.ownBlock) r b) vs bs)
    (hr : Rws lo (hole w v.ownBlock) r b) (hg : w.heap.size ≤ w2.heap.size ∧ ∀ k, k < w.heap.size → some k ≠ v.ownBlock → w2.heap[k]? = w.heap[k]?)
    (hown : OwnSl lo 32 1 enc1 w2 v' (vs ++ [r])) (hat : ∀ z, v'.ownBlock = some z → v.ownBlock = some z ∨ z = H) (hH : w.heap.size ≤ H) : BsO lo w2 v' (bs ++ [b]) := by
  have hsb : Sb lo (hole w v.ownBlock) (hole w2 v'.ownBlock) := Sb.hole hg.1 (fun k _ k2 k3 => ⟨fun e => by
    rcases hat k e.symm with h | h
    · exact k3 h.symm
    · omega, hg.2 k k2 k3⟩)
  exact ⟨vs ++ [r], hown, (h1.mono (fun _ _ h => h.sub hsb)).snoc (hr.sub hsb)⟩
set_option maxHeartbeats 2000000 in
set_option maxRecDepth 100000 in
theorem boxesOf_any {lo : Nat} (bs : List Bx) (v : Value) (w : World) (hs : Iss lo w v bs) (hl : bs.length ≤ 1000000) (hle : ∀ (k : Nat) b, bs[k]? = some b → ∀ (j : Nat) xs, b[j]? = some xs → xs.length ≤ 1000000) :
    Calls Tryd.prog 52 #[v] w fun e w' => ∃ v', e = .returned v' ∧ BsO w.heap.size w' v' bs ∧ Below w.heap.size w w' := by
  obtain ⟨a, cap, rfl, hlc, hcm⟩ := hs.form
  unfold maxLen at hcm
  generalize hn : bs.length = n at *
  have HN := Lib.hid hn
  have HS := Lib.hid hs
  obtain ⟨i0, hi, hy0, hy1, hy2⟩ := info_parts infoBx
  clear hn hs
  go_enter Tryd.func52, Tryd.ntmps52
  go_wp2_with (at_make; refine wpList_make_own _ rfl _ _ 45 rfl w.heap.size 32 i0 _ 1 Tryd.underlying45 hi hy0 hy1 _ _ _ n rfl rfl rfl ?b1 ?b2 ?b3 ?_)
  case b1 => rw [hy2]; omega
  case b2 => simp only [maxLen]; omega
  case b3 => omega
  intro w1 hown1 hgrow1
  have hb1 : Below w.heap.size w w1 := (Below.refl _ _).grown hgrow1 (Nat.le_refl _) (fun k hk => by cases hk)
  have HO1 := Lib.hid (show BsO w.heap.size w1 (.slice (some ⟨w.heap.size, 0, none⟩) 0 n) [] from ⟨[], by simpa [OwnSl] using hown1, All2.nil⟩)
  clear hown1 hgrow1
  go_wp2_with fail
  go_loopw [3, 5, 11] (fun o _ i wr => ∃ (k : Nat), k ≤ n ∧ i = .int .i64 k ∧ Hid (BsO w.heap.size wr o (bs.take k)) ∧ Below w.heap.size w wr) (fun _ _ i _ => n - (intOf i).toNat)
  case atStart => exact ⟨0, by omega, rfl, HO1, hb1⟩
  case round =>
    obtain ⟨k, hk, rfl, HO, hbr⟩ := hrel
    clear HO1 hb1
    have hzr := hbr.size
    by_cases hlt : k < n
    · have i1 : (k : Int) < (n : Int) := by omega
      have i2 : (0 : Int) ≤ (k : Int) := by omega
      obtain ⟨f, hx⟩ : ∃ f, bs[k]? = some f := ⟨_, List.getElem?_eq_getElem (by rw [HN.out]; exact hlt)⟩
      obtain ⟨b, o, v0, v1, v2, v3, rfl, hbl, c0, c1, c2, c3, hss⟩ := (HS.out.below hbr).at hx
      obtain ⟨a0, n0, p0, a1, n1, p1, a2, n2, p2, a3, n3, p3, rfl, rfl, rfl, rfl⟩ := sl4_form hss
      have HXX := Lib.hid hx
      have HSS := Lib.hid hss
      have HLF := Lib.hid (hle k f hx)
      obtain ⟨vs, hvs, hal⟩ := HO.out
      obtain ⟨ua, uc, hu, -, -⟩ : ∃ a c, u3 = .slice a vs.length c ∧ True ∧ True := by
        rcases OwnSl.form hvs with ⟨h, h'⟩ | ⟨g, c, h, _⟩
        · exact ⟨_, _, by rw [h, h']; rfl, trivial, trivial⟩
        · exact ⟨_, _, h, trivial, trivial⟩
      subst hu
      have hown : ∀ z, (Value.slice ua vs.length uc).ownBlock = some z → w.heap.size ≤ z ∧ z < wr.heap.size := fun z hz => World.ownsRow.lt hvs z hz
      have HVS := Lib.hid hvs
      have HAL := Lib.hid hal
      have HBD := Lib.hid (show vs.length ≤ 1000000 by have := hal.1; rw [List.length_take] at this; omega)
      clear hx hss hvs hal
      have hal4 : Below wr.heap.size wr (wr.alloc (.cells #[.slice a0 n0 p0, .slice a1 n1 p1, .slice a2 n2 p2, .slice a3 n3 p3] 89)) := (Below.refl _ _).alloc (Nat.le_refl _) _
      go_wp2_with fail
      refine (box_any f _ _ _ _ wr _ HSS.out hal4 HLF.out).mono ?_
      rintro e w4 ⟨v4, rfl, ho4, hb4⟩
      have hw4 : Below wr.heap.size wr w4 := hal4.trans (hb4.mono hal4.size)
      have hz4 := hw4.size
      have hr4 := ho4.g.rws
      simp only [World.size_alloc] at hr4
      obtain ⟨va4, vc4, rfl, -, -⟩ := hr4.form
      have HR4 := Lib.hid (show Rws w.heap.size (hole w4 (Value.slice ua vs.length uc).ownBlock) _ f from Rws.mono (hr4.sub (Sb.into (fun z hz => by have := (hown z hz).2; omega))) (by omega))
      have HVS4 := Lib.hid (OwnSl.kept HVS.out hw4)
      have HAL4 := Lib.hid (HAL.out.mono (fun _ _ h => h.sub (Sb.hole hz4 (fun j _ j2 j3 => ⟨j3, hw4.block j j2⟩))))
      clear ho4 hb4 hr4
      go_wp2_with (at_builtin; refine wpList_append_lies _ rfl _ _ 45 rfl w.heap.size 32 i0 _ 1 24 Tryd.underlying45 hi hy0 hy1 hy2 rfl (by decide) _ vs.length (vs.flatMap enc1) rfl (World.ownsRow.alloc HVS4.out _) ⟨w4.heap.size, 0, none⟩ 1 1 (enc1 (.slice va4 f.length vc4)) rfl rfl (cellsNew w4 (enc1 (.slice va4 f.length vc4)) _) ?c2 (by decide) ?c3 ?c4 ?c5 _ rfl ?_)
      case c2 => simp [Value.oneCell']
      case c3 => have := HBD.out; simp only [maxLen]; omega
      case c4 => have := HBD.out; omega
      case c5 => simp; omega
      intro g8 cap8 w8 hown8 hgrow8 hlies8 hlt8
      have hown9 : OwnSl w.heap.size 32 1 enc1 w8 (.slice (some ⟨g8, 0, none⟩) (vs.length + 1) cap8) (vs ++ [.slice va4 f.length vc4]) := by unfold OwnSl; simpa using hown8
      have hF8 : BsO w.heap.size w8 (.slice (some ⟨g8, 0, none⟩) (vs.length + 1) cap8) (bs.take k ++ [f]) :=
        BsO.push (w := w4) (H := w4.heap.size + 1) HAL4.out HR4.out (grown_old hgrow8) hown9 (fun z hz => by cases hz; simpa using hlies8) (by omega)
      have hB8 : Below w.heap.size w w8 := belGrown ((hbr.trans (hw4.mono hzr)).alloc (by omega) _) (World.ownsRow.alloc HVS4.out _) hgrow8 (by simp; omega)
      have HF8 := Lib.hid (show BsO w.heap.size w8 (.slice (some ⟨g8, 0, none⟩) (vs.length + 1) cap8) (bs.take (k + 1)) by rw [List.take_add_one, HXX.out]; exact hF8)
      clear hown8 hgrow8 hlies8 hlt8 hown9 hF8
      go_wp2
      go_roundw
      case rel => exact ⟨k + 1, by omega, by go_num, HF8, hB8⟩
      case measure => simp [intOf]; omega
    · have hkn : k = n := by omega
      go_wp2
      go_ret
      have hR := HO.out
      rw [List.take_of_length_le (by rw [HN.out]; omega)] at hR
      exact ⟨_, rfl, hR, hbr⟩
def fbx (fs : List Ft) : List Bx := if fvalid fs then fboxes fs else []
end Go.Proofs.YtajcogpfmpehkaaDoor
