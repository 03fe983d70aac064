/- Unfolding: the program's slices.Concat, limit and divide. -/
import Derived.Test.YtfcbbahlhjdefaaDoorUSp
import Derived.Test.YtfcbbahlhjdefaaDoorNoX
import Derived.Lib.AppendZeros
namespace Go.Proofs.YtfcbbahlhjdefaaDoor
open Go.RowKit
set_option maxHeartbeats 2000000 in
set_option maxRecDepth 100000 in
theorem grow_any (n : Nat) (hn : n ≤ 1000000) (w : World) :
    Calls Tryd.prog 63 #[.slice none 0 0, .int .i64 n] w fun e w' => ∃ a c, e = .returned (.slice a 0 c) ∧ OwnSl w.heap.size 84 4 R4.enc w' (.slice a 0 c) [] ∧ Below w.heap.size w w' := by
  obtain ⟨i0, hi, hy0, hy1, hy2⟩ := info_parts infoSd
  go_enter Tryd.func63, Tryd.ntmps63
  by_cases h0 : n = 0
  · subst h0
    go_wp2
    go_ret
    exact ⟨_, _, rfl, OwnSl.nil _ _ _ _ _, Below.refl _ _⟩
  · have hp : (0 : Int) < (n : Int) := by omega
    have hrun := Lib.run_append_nil_zeros w 81 3 81 84 i0 _ .i64 .i64 Tryd.underlying81 Tryd.underlying3 hi hy0 n (by omega) (by rw [hy1]; decide) (by omega) (by rw [hy2]; omega)
    obtain ⟨G, hG⟩ : ∃ G, grownCap w n 0 84 = G := ⟨_, rfl⟩
    have hGn : n ≤ G := by rw [← hG]; exact grownCap_ge w _ _ _
    have hGm : G ≤ maxLen := by
      have := grownCap_le_maxLen w n 0 84 (by unfold maxLen; omega)
      rwa [hG] at this
    rw [hG] at hrun
    have hzc : ∀ m, (Builtin.zeroCells (Value.agg #[.slice none 0 0, .slice none 0 0, .slice none 0 0, .slice none 0 0]).cells m).size = m * 4 := fun m => by simp [Builtin.zeroCells, Value.cells]; try omega
    obtain ⟨ROW, hROW⟩ : ∃ ROW, Builtin.zeroCells (Value.agg #[.slice none 0 0, .slice none 0 0, .slice none 0 0, .slice none 0 0]).cells n ++ Builtin.zeroCells (Value.agg #[.slice none 0 0, .slice none 0 0, .slice none 0 0, .slice none 0 0]).cells (G - n) = ROW := ⟨_, rfl⟩
    have hRs : ROW.size = G * 4 := by rw [← hROW]; simp only [Array.size_append, hzc]; omega
    rw [hROW] at hrun
    obtain ⟨W1, hW1⟩ : ∃ W1, w.drew.alloc (.cells ROW 84) = W1 := ⟨_, rfl⟩
    have hown : OwnSl w.heap.size 84 4 R4.enc W1 (.slice (some ⟨w.heap.size, 0, none⟩) 0 G) [] := ⟨by simp, .inr ⟨w.heap.size, G, ROW, rfl, Nat.le_refl _, by rw [← hW1]; exact heap_alloc_new w.drew _, Nat.zero_le _, hGm, hRs, by simp⟩⟩
    have hB : Below w.heap.size w W1 := by rw [← hW1]; exact ((Below.refl _ _).drew).alloc (by simp) _
    have hz1 : w.heap.size < W1.heap.size := by rw [← hW1]; simp
    have hgn : (n : Int) ≤ (G : Int) := by omega
    have hg0 : (0 : Int) ≤ (G : Int) := by omega
    rw [hW1] at hrun
    clear hzc hROW hW1 hG
    go_wp2_with (at_builtin; refine Lib.wpList_append_run _ rfl _ _ _ _ rfl _ _ rfl rfl _ _ hrun ?_)
    go_ret
    exact ⟨_, _, rfl, hown, hB⟩
theorem NX.ofOwn {X : Nat → Prop} {lo : Nat} {w : World} {v : Value} (h : OwnSl lo 84 4 R4.enc w v []) : NX X lo w v [] := ⟨[], h, All2.nil⟩
set_option maxHeartbeats 2000000 in
set_option maxRecDepth 100000 in
theorem concat_any {X : Nat → Prop} {F M : List Bx} {u v : Value} {g : Nat} (w : World) (hg : g < w.heap.size) (c0 : w.cell? ⟨g, 0, none⟩ = some u) (c1 : w.cell? ⟨g, 1, none⟩ = some v) (hs : SxV X w u F) (ht : SxV X w v M) (hF : F.length ≤ 100000) (hM : M.length ≤ 100000) (hX : ∀ k, X k → k < w.heap.size) :
    Calls Tryd.prog 53 #[.slice (some ⟨g, 0, none⟩) 2 2] w fun e w' => ∃ z, e = .returned z ∧ LN X w.heap.size w' z (F ++ M) ∧ Below w.heap.size w w' := by
  obtain ⟨ua, uc, rfl, hu1, hu2⟩ := hs.form
  obtain ⟨va, vc, rfl, hv1, hv2⟩ := ht.form
  unfold maxLen at hu2 hv2
  obtain ⟨n, hn⟩ : ∃ n, F.length = n := ⟨_, rfl⟩
  obtain ⟨m, hm⟩ : ∃ m, M.length = m := ⟨_, rfl⟩
  rw [hn] at c0 hs hF hu1
  rw [hm] at c1 ht hM hv1
  have HN := Lib.hid hn
  have HM := Lib.hid hm
  have HS := Lib.hid hs
  have HT := Lib.hid ht
  have HX := Lib.hid hX
  clear hn hm hs ht hX
  go_enter Tryd.func53, Tryd.ntmps53
  go_wp2_with fail
  go_loopw [3, 11] (fun s i wr => wr = w ∧ ((i = .int .i64 0 ∧ s = .int .i64 0) ∨ (i = .int .i64 1 ∧ s = .int .i64 (n : Int)) ∨ (i = .int .i64 2 ∧ s = .int .i64 ((n : Int) + (m : Int))))) (fun _ i _ => 2 - (intOf i).toNat)
  case atStart => exact ⟨rfl, .inl ⟨rfl, rfl⟩⟩
  case round =>
    obtain ⟨rfl, hrel⟩ := hrel
    rcases hrel with ⟨rfl, rfl⟩ | ⟨rfl, rfl⟩ | ⟨rfl, rfl⟩
    · go_wp2
      go_roundw
      case rel => exact ⟨by first | rfl | trivial, .inr (.inl ⟨by go_num, by go_num⟩)⟩
      case measure => simp [intOf]
    · go_wp2
      go_roundw
      case rel => exact ⟨by first | rfl | trivial, .inr (.inr ⟨by go_num, by go_num⟩)⟩
      case measure => simp [intOf]
    · obtain ⟨sm, hsm⟩ : ∃ sm, n + m = sm := ⟨_, rfl⟩
      have hsz : (n : Int) + (m : Int) = (sm : Int) := by omega
      rw [hsz]
      go_wp2_with fail
      refine (grow_any sm (by omega) _).mono ?_
      rintro e w1 ⟨ga, gc, rfl, hown, hb1⟩
      have hz1 := hb1.size
      have HL0 := Lib.hid (show LN X wr.heap.size w1 (.slice ga 0 gc) [] from ⟨NX.ofOwn hown, fun z hz hx => by
        have := (World.ownsRow.lt hown z hz).1
        have := HX.out z hx
        omega⟩)
      clear hown
      go_wp2_with fail
      go_loopw [6, 27] (fun o i w5 => Below wr.heap.size wr w5 ∧ ((i = .int .i64 0 ∧ Hid (LN X wr.heap.size w5 o [])) ∨ (i = .int .i64 1 ∧ Hid (LN X wr.heap.size w5 o F)) ∨ (i = .int .i64 2 ∧ Hid (LN X wr.heap.size w5 o (F ++ M))))) (fun _ i _ => 2 - (intOf i).toNat)
      case atStart => exact ⟨hb1, .inl ⟨rfl, HL0⟩⟩
      case round =>
        obtain ⟨hb5, hrel⟩ := hrel
        have hz5 := hb5.size
        rcases hrel with ⟨rfl, HL⟩ | ⟨rfl, HL⟩ | ⟨rfl, HL⟩
        · obtain ⟨oa, oc, rfl⟩ := HL.out.form
          obtain ⟨v', w', hrun, hL', -, hB'⟩ := LN.append 81 HL.out (SxV.issx (HS.out.older hb5 (fun k hk => hk.elim (fun e => .inl (by have := (HL.out.lt k e.symm).1; omega)) .inr))) (by simp [HN.out]; omega) hz5 (fun k hk => by have := HX.out k hk; omega)
          have e0 := (hb5.cell (p := ⟨g, 0, none⟩) hg).trans c0
          have HL' := Lib.hid hL'
          have hbw := hb5.trans hB'
          clear hL' hB'
          go_wp2_with (at_builtin; refine wpList_append_run rfl _ _ 81 rfl rfl rfl hrun ?_)
          go_roundw
          case rel => exact ⟨hbw, .inr (.inl ⟨by go_num, HL'⟩)⟩
          case measure => simp [intOf]
        · obtain ⟨oa, oc, rfl⟩ := HL.out.form
          obtain ⟨v', w', hrun, hL', -, hB'⟩ := LN.append 81 HL.out (SxV.issx (HT.out.older hb5 (fun k hk => hk.elim (fun e => .inl (by have := (HL.out.lt k e.symm).1; omega)) .inr))) (by rw [HN.out, HM.out]; omega) hz5 (fun k hk => by have := HX.out k hk; omega)
          have e1 := (hb5.cell (p := ⟨g, 1, none⟩) hg).trans c1
          have HL' := Lib.hid hL'
          have hbw := hb5.trans hB'
          clear hL' hB'
          go_wp2_with (at_builtin; refine wpList_append_run rfl _ _ 81 rfl rfl rfl hrun ?_)
          go_roundw
          case rel => exact ⟨hbw, .inr (.inr ⟨by go_num, HL'⟩)⟩
          case measure => simp [intOf]
        · go_wp2
          go_ret
          exact ⟨_, rfl, HL.out, hb5⟩
set_option maxHeartbeats 1000000 in
theorem ulimit_any {U : Nat} {q : Bool} (a : Option Addr) (n c : Nat) (w : World) (c2 : w.cell? ⟨U, 2, none⟩ = some (.bool q)) (f2 : w.frozen? ⟨U, 2, none⟩ = false) :
    Calls Tryd.prog 52 #[.pointer (some ⟨U, 0, none⟩), .slice a n c] w fun e w' => e = .returned (.slice a n c) ∧ w' = if n ≤ 400 then w else w.setCell ⟨U, 2, none⟩ (.bool true) := by
  go_enter Tryd.func52, Tryd.ntmps52
  by_cases h : n ≤ 400
  · rw [if_pos h]
    have h1 : ¬ (400 : Int) < (n : Int) := by omega
    go_wp2
    go_ret
    exact ⟨rfl, rfl⟩
  · rw [if_neg h]
    have h1 : (400 : Int) < (n : Int) := by omega
    go_wp2
    go_ret
    exact ⟨rfl, rfl⟩
/-- Two lists that grow side by side. -/
structure NTwo (X : Nat → Prop) (lo : Nat) (w : World) (u v : Value) (F M : List Bx) : Prop where
  a : LN (fun k => some k = v.ownBlock ∨ X k) lo w u F
  b : LN (fun k => some k = u.ownBlock ∨ X k) lo w v M
theorem NTwo.below {X : Nat → Prop} {lo : Nat} {w w' : World} {u v : Value} {F M : List Bx} (h : NTwo X lo w u v F M) (hb : Below w.heap.size w w') : NTwo X lo w' u v F M := ⟨h.a.below hb, h.b.below hb⟩
theorem NTwo.swap {X : Nat → Prop} {lo : Nat} {w : World} {u v : Value} {F M : List Bx} (h : NTwo X lo w u v F M) : NTwo X lo w v u M F := ⟨h.b, h.a⟩
theorem NTwo.push {X : Nat → Prop} {lo : Nat} {w : World} {u v vx : Value} {F M cs : List Bx} (ty : TypeId) (h : NTwo X lo w u v F M) (hs : IssX (fun k => some k = u.ownBlock ∨ some k = v.ownBlock ∨ X k) w vx cs) (hb : F.length + cs.length ≤ 1000000) (hlo : lo ≤ w.heap.size) (hX : ∀ k, X k → k < w.heap.size) :
    ∃ v' w', (Builtin.append_ #[81, 81] ty #[u, vx]).run Tryd.prog w = .ok v' w' ∧ NTwo X lo w' v' v (F ++ cs) M ∧ Below lo w w' ∧ (∀ k, k < w.heap.size → some k ≠ u.ownBlock → w'.heap[k]? = w.heap[k]?) := by
  obtain ⟨v', w', h1, h2, h3, h4⟩ := LN.append ty h.a hs hb hlo (fun k hk => hk.elim (fun e => (h.b.lt k e.symm).2) (hX k))
  exact ⟨v', w', h1, ⟨h2, h.b.grow h3⟩, h4, fun k k1 k2 => h3.g.block k k1 k2⟩
theorem rvalid_bad {l : List Bx} {z : Bx} (hz : z ∈ l) (h : bvalid z = false) : rvalid l = false := by
  rw [← Bool.not_eq_true, rvalid_iff]
  intro g
  have := g.2 z hz
  rw [h] at this; cases this
theorem ufit_bad {inn : List Bx} {B p : Bx} {j : Nat} (hp : inn[j]? = some p) (he : bempty (bmeet p B) = false) (h : bvalid (bmeet p B) = false) : rvalid (ufit inn B) = false :=
  rvalid_bad (z := bmeet p B) (by
    unfold ufit
    exact List.mem_filter.2 ⟨List.mem_map.2 ⟨p, List.mem_of_getElem? hp, rfl⟩, by rw [he]; rfl⟩) h
theorem umiss_bad {inn : List Bx} {B p : Bx} {j : Nat} (hp : inn[j]? = some p) (h : (bcut p B).all bvalid = false) : rvalid (umiss inn B) = false := by
  rw [← Bool.not_eq_true, List.all_eq_true] at h
  rw [← Bool.not_eq_true, rvalid_iff]
  intro g
  refine h (fun z hz => g.2 z ?_)
  unfold umiss
  exact List.mem_flatMap.2 ⟨p, List.mem_of_getElem? hp, hz⟩
/-- What divide gives. -/
def DivR (S U : Nat) (Y : Nat → Prop) (cv ov : Value) (out : List Ft) (F M : List Bx) (w : World) (e : Ending) (w' : World) : Prop :=
  ∃ f m, e = .returned (.tuple #[f, m]) ∧ Below S w w' ∧ ((rvalid F && rvalid M) = true → Below w.heap.size w w' ∧ SxV (ZS U ov Y) w' f F ∧ SxV (ZS U ov Y) w' m M) ∧ ((rvalid F && rvalid M) = false → Ui S U Y cv true w' ov out ∧ Tw U ov ov w w')
set_option maxHeartbeats 8000000 in
set_option maxRecDepth 100000 in
theorem divide_any {S U : Nat} {Y : Nat → Prop} {cv ov v : Value} {out : List Ft} {inn : List Bx} {B : Bx} {a0 a1 a2 a3 : Option Addr} {n0 n1 n2 n3 p0 p1 p2 p3 : Nat} (w : World) (ht : Tab w) (hU : Ui S U Y cv false w ov out) (hin : SxV (ZS U ov Y) w v inn) (hv : rvalid inn = true) (hB : All2 (SpV (ZS U ov Y) w) [.slice a0 n0 p0, .slice a1 n1 p1, .slice a2 n2 p2, .slice a3 n3 p3] B) (hBv : bvalid B = true) (hY : ∀ k, Y k → k < w.heap.size) :
    Calls Tryd.prog 50 #[.pointer (some ⟨U, 0, none⟩), v, .agg #[.slice a0 n0 p0, .slice a1 n1 p1, .slice a2 n2 p2, .slice a3 n3 p3]] w (DivR S U Y cv ov out (ufit inn B) (umiss inn B) w) := by
  obtain ⟨va, vc, rfl, hvl, hvm⟩ := hin.form
  unfold maxLen at hvm
  obtain ⟨m, hm⟩ : ∃ m, inn.length = m := ⟨_, rfl⟩
  have HM := Lib.hid hm
  rw [hm] at hin hvl ⊢
  have hm4 : m ≤ 400 := by rw [← hm]; exact (rvalid_iff.1 hv).1
  have HIV := Lib.hid (rvalid_iff.1 hv).2
  have HU := Lib.hid hU
  have HI := Lib.hid hin
  have HB := Lib.hid hB
  have HBV := Lib.hid hBv
  have HTab := Lib.hid ht
  have hSw : S ≤ w.heap.size := by have := hU.s; have := hU.lt; omega
  have HZ := Lib.hid (ZS.ltU hU hY)
  obtain ⟨XX, hXX⟩ : ∃ XX, ZS U ov Y = XX := ⟨_, rfl⟩
  have HXX := Lib.hid hXX
  have HZX := Lib.hid (show ∀ k, XX k → k < w.heap.size by rw [← hXX]; exact HZ.out)
  rw [hXX] at HI HB
  obtain ⟨F0, hF0⟩ : ∃ F0, ufit inn B = F0 := ⟨_, rfl⟩
  obtain ⟨M0, hM0⟩ : ∃ M0, umiss inn B = M0 := ⟨_, rfl⟩
  have HF0 := Lib.hid hF0
  have HM0 := Lib.hid hM0
  rw [hF0, hM0]
  obtain ⟨W, hW⟩ : ∃ W, w.alloc (.cells #[.slice a0 n0 p0, .slice a1 n1 p1, .slice a2 n2 p2, .slice a3 n3 p3] 84) = W := ⟨_, rfl⟩
  have hal : Below w.heap.size w W := by rw [← hW]; exact (Below.refl _ _).alloc (Nat.le_refl _) _
  have hzW : w.heap.size < W.heap.size := by rw [← hW]; simp
  have e0 : W.cell? ⟨w.heap.size, 0, none⟩ = some (.slice a0 n0 p0) := by rw [← hW]; simp
  have e1 : W.cell? ⟨w.heap.size, 1, none⟩ = some (.slice a1 n1 p1) := by rw [← hW]; simp
  have e2 : W.cell? ⟨w.heap.size, 2, none⟩ = some (.slice a2 n2 p2) := by rw [← hW]; simp
  have e3 : W.cell? ⟨w.heap.size, 3, none⟩ = some (.slice a3 n3 p3) := by rw [← hW]; simp
  have HE := Lib.hid (And.intro e0 (And.intro e1 (And.intro e2 e3)))
  have hUlt : U < w.heap.size := hU.lt
  -- the end where the mark is set
  have HOV := Lib.hid (show (rvalid F0 && rvalid M0) = false → ∀ w5, Below w.heap.size w w5 → (w5.cell? ⟨U, 2, none⟩ = some (.bool false) ∧ w5.frozen? ⟨U, 2, none⟩ = false) ∧ ∀ f m, DivR S U Y cv ov out F0 M0 w (.returned (.tuple #[f, m])) (w5.setCell ⟨U, 2, none⟩ (.bool true)) from fun hD w5 hb => by
    have h5 := HU.out.below hb
    obtain ⟨g1, g2, g3⟩ := h5.over
    exact ⟨⟨h5.c2, h5.f2⟩, fun f m => ⟨f, m, rfl, (hb.mono hSw).trans g3, fun h => (by rw [hD] at h; cases h), fun _ => ⟨g1, (Tw.of hb).trans g2⟩⟩⟩)
  clear hm hU hin hB hBv hv ht hXX hF0 hM0 e0 e1 e2 e3
  go_enter Tryd.func50, Tryd.ntmps50
  go_wp2_with fail
  clear hW
  go_loopw [6, 7, 16] (fun fv mv i wr => ∃ j : Nat, j ≤ m ∧ i = .int .i64 j ∧ Hid (NTwo XX W.heap.size wr fv mv (ufit (inn.take j) B) (umiss (inn.take j) B)) ∧ Hid (∀ z, z ∈ ufit (inn.take j) B → bvalid z = true) ∧ Hid (∀ z, z ∈ umiss (inn.take j) B → bvalid z = true) ∧ Below W.heap.size W wr) (fun _ _ i _ => m - (intOf i).toNat)
  case atStart => exact ⟨0, by omega, rfl, Lib.hid ⟨LN.nil, LN.nil⟩, Lib.hid (fun z hz => by simp [ufit] at hz), Lib.hid (fun z hz => by simp [umiss] at hz), Below.refl _ _⟩
  case round =>
    obtain ⟨j, hj, rfl, HT, HFV, HMV, hbr⟩ := hrel
    have hzr := hbr.size
    have hwr : Below w.heap.size w wr := hal.trans (hbr.mono (by omega))
    obtain ⟨fa, fc, hfv⟩ := HT.out.a.form
    obtain ⟨ma, mc, hmv⟩ := HT.out.b.form
    by_cases hjm : j < m
    · have j3 : (j : Int) < (m : Int) := by omega
      have j4 : (0 : Int) ≤ (j : Int) := by omega
      obtain ⟨p, hp⟩ : ∃ p, inn[j]? = some p := ⟨_, List.getElem?_eq_getElem (by rw [HM.out]; exact hjm)⟩
      obtain ⟨b, o, s0, s1, s2, s3, rfl, hbl, d0, d1, d2, d3, hps⟩ := HI.out.issx.at hp
      obtain ⟨C0, K0, E0, C1, K1, E1, C2, K2, E2, C3, K3, E3, rfl, rfl, rfl, rfl⟩ := sl4_form (hps.mono (fun _ _ g => g.1))
      have HPS := Lib.hid hps
      have HPV := Lib.hid (HIV.out p (List.mem_of_getElem? hp))
      have HSUF := Lib.hid (And.intro (ufit_take (W := B) hp) (umiss_take (W := B) hp))
      have HP := Lib.hid hp
      replace d0 := (hwr.cell (p := ⟨b, o + j * 4, none⟩) hbl).trans d0
      replace d1 := (hwr.cell (p := ⟨b, o + j * 4 + 1, none⟩) hbl).trans d1
      replace d2 := (hwr.cell (p := ⟨b, o + j * 4 + 2, none⟩) hbl).trans d2
      replace d3 := (hwr.cell (p := ⟨b, o + j * 4 + 3, none⟩) hbl).trans d3
      obtain ⟨F, hF⟩ : ∃ F, ufit (inn.take j) B = F := ⟨_, rfl⟩
      obtain ⟨Mi, hMi⟩ : ∃ Mi, umiss (inn.take j) B = Mi := ⟨_, rfl⟩
      have hFl : F.length ≤ 400 := by rw [← hF]; exact Nat.le_trans (ufit_len _ _) (by rw [List.length_take]; omega)
      have hMl : Mi.length ≤ 1600 := by rw [← hMi]; exact Nat.le_trans (umiss_len _ _) (by rw [List.length_take]; omega)
      rw [hF] at hfv HT HSUF HFV
      rw [hMi] at hmv HT HSUF HMV
      subst hfv
      subst hmv
      obtain ⟨V, hV⟩ : ∃ V, wr.alloc (.cells #[.slice C0 K0 E0, .slice C1 K1 E1, .slice C2 K2 E2, .slice C3 K3 E3] 84) = V := ⟨_, rfl⟩
      have halV : Below wr.heap.size wr V := by rw [← hV]; exact (Below.refl _ _).alloc (Nat.le_refl _) _
      have hzV : wr.heap.size < V.heap.size := by rw [← hV]; simp
      have l0 : V.cell? ⟨wr.heap.size, 0, none⟩ = some (.slice C0 K0 E0) := by rw [← hV]; simp
      have l1 : V.cell? ⟨wr.heap.size, 1, none⟩ = some (.slice C1 K1 E1) := by rw [← hV]; simp
      have l2 : V.cell? ⟨wr.heap.size, 2, none⟩ = some (.slice C2 K2 E2) := by rw [← hV]; simp
      have l3 : V.cell? ⟨wr.heap.size, 3, none⟩ = some (.slice C3 K3 E3) := by rw [← hV]; simp
      have HLC := Lib.hid (And.intro l0 (And.intro l1 (And.intro l2 l3)))
      have hwV : Below W.heap.size W V := hbr.trans (halV.mono hzr)
      have hwwV : Below w.heap.size w V := hal.trans (hwV.mono (by omega))
      have k0 := (hwV.cell (p := ⟨w.heap.size, 0, none⟩) hzW).trans HE.out.1
      have k1 := (hwV.cell (p := ⟨w.heap.size, 1, none⟩) hzW).trans HE.out.2.1
      have k2 := (hwV.cell (p := ⟨w.heap.size, 2, none⟩) hzW).trans HE.out.2.2.1
      have k3 := (hwV.cell (p := ⟨w.heap.size, 3, none⟩) hzW).trans HE.out.2.2.2
      have HPV2 := Lib.hid (HPS.out.mono (fun _ _ g => (g.below hwwV)))
      have HBV2 := Lib.hid (HB.out.mono (fun _ _ g => (g.below hwwV)))
      obtain ⟨M, hM⟩ : ∃ M, bmeet p B = M := ⟨_, rfl⟩
      have HMM := Lib.hid hM
      obtain ⟨em, hem⟩ : ∃ em, (!bempty (bmeet p B)) = em := ⟨_, rfl⟩
      have HEM := Lib.hid hem
      have hUV : V.cell? ⟨U, 2, none⟩ = V.cell? ⟨U, 2, none⟩ := rfl
      clear hp hps hF hMi hM hem hUV
      go_wp2_with fail
      clear hV d0 d1 d2 d3
      refine (touches_b (HPV2.out.mono (fun _ _ g => g.1)) (HBV2.out.mono (fun _ _ g => g.1)) HPV.out HBV.out HEM.out).mono ?_
      rintro e w5 ⟨rfl, hb5⟩
      have hzV5 := hb5.size
      have hwV5 := hwV.trans (hb5.mono hwV.size)
      have hb5w := hwwV.trans (hb5.mono hwwV.size)
      have HT5 := Lib.hid ((HT.out.below halV).below hb5)
      clear k0 k1 k2 k3 l0 l1 l2 l3
      cases em
      · have he : bempty (bmeet p B) = true := by have := HEM.out; simpa using this
        have HFF := Lib.hid (show ufit (inn.take (j + 1)) B = F by rw [HSUF.out.1, he]; simp)
        clear he
        have k0 := (hwV5.cell (p := ⟨w.heap.size, 0, none⟩) hzW).trans HE.out.1
        have k1 := (hwV5.cell (p := ⟨w.heap.size, 1, none⟩) hzW).trans HE.out.2.1
        have k2 := (hwV5.cell (p := ⟨w.heap.size, 2, none⟩) hzW).trans HE.out.2.2.1
        have k3 := (hwV5.cell (p := ⟨w.heap.size, 3, none⟩) hzW).trans HE.out.2.2.2
        have l0 := (hb5.cell (p := ⟨wr.heap.size, 0, none⟩) hzV).trans HLC.out.1
        have l1 := (hb5.cell (p := ⟨wr.heap.size, 1, none⟩) hzV).trans HLC.out.2.1
        have l2 := (hb5.cell (p := ⟨wr.heap.size, 2, none⟩) hzV).trans HLC.out.2.2.1
        have l3 := (hb5.cell (p := ⟨wr.heap.size, 3, none⟩) hzV).trans HLC.out.2.2.2
        have HPX := Lib.hid (HPS.out.mono (fun _ _ g => SpV.older (P := fun z => some z = (Value.slice ma Mi.length mc).ownBlock ∨ some z = (Value.slice fa F.length fc).ownBlock ∨ XX z) g hb5w (fun z hz => by
          rcases hz with e | e | e
          · exact .inl (by have := (HT5.out.b.lt z e.symm).1; omega)
          · exact .inl (by have := (HT5.out.a.lt z e.symm).1; omega)
          · exact .inr e)))
        have HBX := Lib.hid (HB.out.mono (fun _ _ g => SpV.older (P := fun z => some z = (Value.slice ma Mi.length mc).ownBlock ∨ some z = (Value.slice fa F.length fc).ownBlock ∨ XX z) g hb5w (fun z hz => by
          rcases hz with e | e | e
          · exact .inl (by have := (HT5.out.b.lt z e.symm).1; omega)
          · exact .inl (by have := (HT5.out.a.lt z e.symm).1; omega)
          · exact .inr e)))
        have hPl : ∀ z, (some z = (Value.slice ma Mi.length mc).ownBlock ∨ some z = (Value.slice fa F.length fc).ownBlock ∨ XX z) → z < w5.heap.size := fun z hz => by
          rcases hz with e | e | e
          · exact (HT5.out.b.lt z e.symm).2
          · exact (HT5.out.a.lt z e.symm).2
          · have := HZX.out z e; have := hb5w.size; omega
        obtain ⟨rc, hrc⟩ : ∃ rc, (bcut p B).all bvalid = rc := ⟨_, rfl⟩
        have HRC := Lib.hid hrc
        have hKl := bcut_len p B
        obtain ⟨K, hK⟩ : ∃ K, bcut p B = K := ⟨_, rfl⟩
        have HK := Lib.hid hK
        rw [hK] at hKl
        clear hrc hK
        go_wp2_with fail
        refine (cut_r HRC.out (HTab.out.below hb5w) hPl HPX.out HBX.out HPV.out HBV.out).mono ?_
        rintro e w9 ⟨z9, rfl, hz9, hb9⟩
        rw [HK.out] at hz9
        have hb9V := hwV5.trans (hb9.mono hwV5.size)
        have hb9w := hb5w.trans (hb9.mono hb5w.size)
        have HT9 := Lib.hid (HT5.out.below hb9)
        have HZ9 := Lib.hid hz9
        clear hz9
        cases rc
        · have HD := Lib.hid (show (rvalid F0 && rvalid M0) = false by rw [← HM0.out, umiss_bad HP.out HRC.out, Bool.and_false])
          obtain ⟨⟨o2, ofz⟩, hov⟩ := HOV.out HD.out w9 hb9w
          have HOK := Lib.hid hov
          clear hov
          go_wp2
          go_ret2
          exact HOK.out _ _
        · obtain ⟨xs9, g1, g2⟩ := HZ9.out rfl
          have hiss : IssX (fun z => some z = (Value.slice ma Mi.length mc).ownBlock ∨ some z = (Value.slice fa F.length fc).ownBlock ∨ XX z) w9 z9 K :=
            ⟨xs9, SlFr.mono (OwnSl.fr (sz := 4) (enc := R4.enc) (fun _ => rfl) g1) (Nat.zero_le _), g2.mono (fun _ _ g => (All2.mono g (fun _ _ q => q.sub (fun _ h => .inr h)) : All2 _ _ _))⟩
          obtain ⟨za, zn, zc, hzf⟩ : ∃ a n c, z9 = Value.slice a n c := (let ⟨a, c, h, _⟩ := hiss.form; ⟨a, _, c, h⟩)
          subst hzf
          obtain ⟨v10, w10, hrun, hT10, hB10, -⟩ := HT9.out.swap.push 81 hiss (by omega) (by have := hb9V.size; omega) (fun k hk => by have := HZX.out k hk; have := hb9w.size; omega)
          have HT10 := Lib.hid (show NTwo XX W.heap.size w10 (Value.slice fa F.length fc) v10 (ufit (inn.take (j + 1)) B) (umiss (inn.take (j + 1)) B) by
            rw [HFF.out, HSUF.out.2, HK.out]; exact hT10.swap)
          have HFV10 := Lib.hid (show ∀ z, z ∈ ufit (inn.take (j + 1)) B → bvalid z = true by rw [HFF.out]; exact HFV.out)
          have HMV10 := Lib.hid (show ∀ z, z ∈ umiss (inn.take (j + 1)) B → bvalid z = true by
            rw [HSUF.out.2]
            intro z hz
            rcases List.mem_append.1 hz with h | h
            · exact HMV.out z h
            · exact List.all_eq_true.1 HRC.out z h)
          have hb10 : Below W.heap.size W w10 := hb9V.trans hB10
          clear g1 g2 hiss hT10 hB10
          go_wp2_with (at_builtin; refine wpList_append_run rfl _ _ 81 rfl rfl rfl hrun ?_)
          go_roundw
          case rel => exact ⟨j + 1, by omega, by go_num, HT10, HFV10, HMV10, hb10⟩
          case measure => simp [intOf]; omega
      · have he : bempty (bmeet p B) = false := by have := HEM.out; simpa using this
        have HFF := Lib.hid (show ufit (inn.take (j + 1)) B = F ++ [M] by rw [HSUF.out.1, he, HMM.out]; simp)
        have HEE := Lib.hid he
        obtain ⟨q, hq⟩ : ∃ q, bvalid M = q := ⟨_, rfl⟩
        have HQ := Lib.hid hq
        have k0 := (hwV5.cell (p := ⟨w.heap.size, 0, none⟩) hzW).trans HE.out.1
        have k1 := (hwV5.cell (p := ⟨w.heap.size, 1, none⟩) hzW).trans HE.out.2.1
        have k2 := (hwV5.cell (p := ⟨w.heap.size, 2, none⟩) hzW).trans HE.out.2.2.1
        have k3 := (hwV5.cell (p := ⟨w.heap.size, 3, none⟩) hzW).trans HE.out.2.2.2
        have l0 := (hb5.cell (p := ⟨wr.heap.size, 0, none⟩) hzV).trans HLC.out.1
        have l1 := (hb5.cell (p := ⟨wr.heap.size, 1, none⟩) hzV).trans HLC.out.2.1
        have l2 := (hb5.cell (p := ⟨wr.heap.size, 2, none⟩) hzV).trans HLC.out.2.2.1
        have l3 := (hb5.cell (p := ⟨wr.heap.size, 3, none⟩) hzV).trans HLC.out.2.2.2
        clear he hq
        go_wp2_with fail
        refine (meet_r HMM.out HQ.out (HTab.out.below hb5w) (HPV2.out.mono (fun _ _ g => (g.below hb5).1)) (HBV2.out.mono (fun _ _ g => (g.below hb5).1)) HPV.out HBV.out).mono ?_
        rintro e w6 ⟨r0, t0, i0, r1, t1, i1, r2, t2, i2, r3, t3, i3, rfl, hres, hb6⟩
        have hz6 := hb6.size
        have hwV6 := hwV5.trans (hb6.mono hwV5.size)
        have hb6w := hb5w.trans (hb6.mono hb5w.size)
        obtain ⟨W6, hW6⟩ : ∃ W6, w6.alloc (.cells #[.slice r0 t0 i0, .slice r1 t1 i1, .slice r2 t2 i2, .slice r3 t3 i3] 84) = W6 := ⟨_, rfl⟩
        have hal6 : Below w6.heap.size w6 W6 := by rw [← hW6]; exact (Below.refl _ _).alloc (Nat.le_refl _) _
        have m0 : W6.cell? ⟨w6.heap.size, 0, none⟩ = some (.slice r0 t0 i0) := by rw [← hW6]; simp
        have m1 : W6.cell? ⟨w6.heap.size, 1, none⟩ = some (.slice r1 t1 i1) := by rw [← hW6]; simp
        have m2 : W6.cell? ⟨w6.heap.size, 2, none⟩ = some (.slice r2 t2 i2) := by rw [← hW6]; simp
        have m3 : W6.cell? ⟨w6.heap.size, 3, none⟩ = some (.slice r3 t3 i3) := by rw [← hW6]; simp
        have hb56 := hb6.trans (hal6.mono hz6)
        have hwV7 := hwV5.trans (hb56.mono hwV5.size)
        have hb7w := hb5w.trans (hb56.mono hb5w.size)
        have HRES := Lib.hid hres
        clear k0 k1 k2 k3 l0 l1 l2 l3 hres
        cases q
        · have HD := Lib.hid (show (rvalid F0 && rvalid M0) = false by rw [← HF0.out, ufit_bad HP.out HEE.out (by rw [HMM.out]; exact HQ.out)]; rfl)
          obtain ⟨⟨o2, ofz⟩, hov⟩ := HOV.out HD.out W6 hb7w
          have HOK := Lib.hid hov
          clear hov
          go_wp2
          go_ret2
          exact HOK.out _ _
        · have hres := HRES.out rfl
          have hal7 : Below W6.heap.size W6 (W6.alloc (.cells #[.slice r0 t0 i0, .slice r1 t1 i1, .slice r2 t2 i2, .slice r3 t3 i3] 84)) := (Below.refl _ _).alloc (Nat.le_refl _) _
          have HT7 := Lib.hid ((HT5.out.below hb56).below hal7)
          have hfl : ∀ z, some z = (Value.slice fa F.length fc).ownBlock ∨ some z = (Value.slice ma Mi.length mc).ownBlock ∨ XX z → z < w5.heap.size := fun z hz => by
            rcases hz with e | e | e
            · exact (HT5.out.a.lt z e.symm).2
            · exact (HT5.out.b.lt z e.symm).2
            · have := HZX.out z e; have := hb5w.size; omega
          obtain ⟨v8, w8, hrun, hT8, hB8, hgr8⟩ := HT7.out.push (cs := [M]) (vx := .slice (some ⟨W6.heap.size, 0, none⟩) 1 1) 81 ⟨[⟨.slice r0 t0 i0, .slice r1 t1 i1, .slice r2 t2 i2, .slice r3 t3 i3⟩], SlFr.of (lit4_at W6 _ _ _ _ _), ⟨rfl, fun i x y hx hy => by
            match i, hx, hy with
            | 0, hx, hy =>
              cases hx; cases hy
              exact hres.mono (fun _ _ q => SpV.highX (q.below (hal6.trans (hal7.mono hal6.size))) hfl)
            | i + 1, hx, hy => simp at hx⟩⟩ (by simp; omega) (by have := hwV7.size; simp; omega) (fun k hk => by have := HZX.out k hk; have := hb7w.size; simp; omega)
          have HT8 := Lib.hid hT8
          have HGR := Lib.hid hgr8
          clear hgr8
          have hb8 : Below W.heap.size W w8 := (hwV7.trans (hal7.mono hwV7.size)).trans hB8
          have HFV8 := Lib.hid (show ∀ z, z ∈ F ++ [M] → bvalid z = true from fun z hz => by
            rcases List.mem_append.1 hz with h | h
            · exact HFV.out z h
            · rw [List.mem_singleton.1 h]; exact HQ.out)
          obtain ⟨ga, gn, gc, hg8⟩ : ∃ a n c, v8 = Value.slice a n c := (let ⟨a, c, h⟩ := hT8.a.form; ⟨a, _, c, h⟩)
          subst hg8
          have hb8w : Below w.heap.size w w8 := hal.trans (hb8.mono (by omega))
          have HLW := Lib.hid (show ∀ i v, [Value.slice C0 K0 E0, .slice C1 K1 E1, .slice C2 K2 E2, .slice C3 K3 E3][i]? = some v → w8.cell? ⟨wr.heap.size, i, none⟩ = some v from fun i v hi => by
            have h1 : V.cell? ⟨wr.heap.size, i, none⟩ = some v := by
              match i, hi with
              | 0, hi => cases hi; exact HLC.out.1
              | 1, hi => cases hi; exact HLC.out.2.1
              | 2, hi => cases hi; exact HLC.out.2.2.1
              | 3, hi => cases hi; exact HLC.out.2.2.2
              | i + 4, hi => simp at hi
            have h2 := (hb5.trans ((hb56.trans (hal7.mono hb56.size)).mono hb5.size)).cell (p := ⟨wr.heap.size, i, none⟩) hzV
            have h3 : w8.heap[wr.heap.size]? = (W6.alloc (.cells #[.slice r0 t0 i0, .slice r1 t1 i1, .slice r2 t2 i2, .slice r3 t3 i3] 84)).heap[wr.heap.size]? := HGR.out wr.heap.size (by have := hb5.size; have := hb56.size; simp; omega) (fun e => by have := (HT.out.a.lt wr.heap.size e.symm).2; omega)
            exact (World.cell?_of_block (a := ⟨wr.heap.size, i, none⟩) h3).trans (h2.trans h1))
          clear hT8 hB8 hres hfl hal7
          have k0 := (hb8.cell (p := ⟨w.heap.size, 0, none⟩) hzW).trans HE.out.1
          have k1 := (hb8.cell (p := ⟨w.heap.size, 1, none⟩) hzW).trans HE.out.2.1
          have k2 := (hb8.cell (p := ⟨w.heap.size, 2, none⟩) hzW).trans HE.out.2.2.1
          have k3 := (hb8.cell (p := ⟨w.heap.size, 3, none⟩) hzW).trans HE.out.2.2.2
          have l0 := HLW.out 0 _ rfl
          have l1 := HLW.out 1 _ rfl
          have l2 := HLW.out 2 _ rfl
          have l3 := HLW.out 3 _ rfl
          have HPX := Lib.hid (HPS.out.mono (fun _ _ g => SpV.older (P := fun z => some z = (Value.slice ma Mi.length mc).ownBlock ∨ some z = (Value.slice ga gn gc).ownBlock ∨ XX z) g hb8w (fun z hz => by
            rcases hz with e | e | e
            · exact .inl (by have := (HT8.out.b.lt z e.symm).1; omega)
            · exact .inl (by have := (HT8.out.a.lt z e.symm).1; omega)
            · exact .inr e)))
          have HBX := Lib.hid (HB.out.mono (fun _ _ g => SpV.older (P := fun z => some z = (Value.slice ma Mi.length mc).ownBlock ∨ some z = (Value.slice ga gn gc).ownBlock ∨ XX z) g hb8w (fun z hz => by
            rcases hz with e | e | e
            · exact .inl (by have := (HT8.out.b.lt z e.symm).1; omega)
            · exact .inl (by have := (HT8.out.a.lt z e.symm).1; omega)
            · exact .inr e)))
          have hPl : ∀ z, (some z = (Value.slice ma Mi.length mc).ownBlock ∨ some z = (Value.slice ga gn gc).ownBlock ∨ XX z) → z < w8.heap.size := fun z hz => by
            rcases hz with e | e | e
            · exact (HT8.out.b.lt z e.symm).2
            · exact (HT8.out.a.lt z e.symm).2
            · have := HZX.out z e; have := hb8w.size; omega
          obtain ⟨rc, hrc⟩ : ∃ rc, (bcut p B).all bvalid = rc := ⟨_, rfl⟩
          have HRC := Lib.hid hrc
          have hKl := bcut_len p B
          obtain ⟨K, hK⟩ : ∃ K, bcut p B = K := ⟨_, rfl⟩
          have HK := Lib.hid hK
          rw [hK] at hKl
          clear hrc hK
          go_wp2_with (at_builtin; refine wpList_append_run rfl _ _ 81 rfl rfl rfl hrun ?_)
          refine (cut_r HRC.out (HTab.out.below hb8w) hPl HPX.out HBX.out HPV.out HBV.out).mono ?_
          rintro e w9 ⟨z9, rfl, hz9, hb9⟩
          rw [HK.out] at hz9
          have hb9V := hb8.trans (hb9.mono hb8.size)
          have hb9w := hb8w.trans (hb9.mono hb8w.size)
          have HT9 := Lib.hid (HT8.out.below hb9)
          have HZ9 := Lib.hid hz9
          clear hz9
          cases rc
          · have HD := Lib.hid (show (rvalid F0 && rvalid M0) = false by rw [← HM0.out, umiss_bad HP.out HRC.out, Bool.and_false])
            obtain ⟨⟨o2, ofz⟩, hov⟩ := HOV.out HD.out w9 hb9w
            have HOK := Lib.hid hov
            clear hov
            go_wp2
            go_ret2
            exact HOK.out _ _
          · obtain ⟨xs9, g1, g2⟩ := HZ9.out rfl
            have hiss : IssX (fun z => some z = (Value.slice ma Mi.length mc).ownBlock ∨ some z = (Value.slice ga gn gc).ownBlock ∨ XX z) w9 z9 K :=
              ⟨xs9, SlFr.mono (OwnSl.fr (sz := 4) (enc := R4.enc) (fun _ => rfl) g1) (Nat.zero_le _), g2.mono (fun _ _ g => (All2.mono g (fun _ _ q => q.sub (fun _ h => .inr h)) : All2 _ _ _))⟩
            obtain ⟨za, zn, zc, hzf⟩ : ∃ a n c, z9 = Value.slice a n c := (let ⟨a, c, h, _⟩ := hiss.form; ⟨a, _, c, h⟩)
            subst hzf
            obtain ⟨v10, w10, hrun, hT10, hB10, -⟩ := HT9.out.swap.push 81 hiss (by omega) (by have := hb9V.size; omega) (fun k hk => by have := HZX.out k hk; have := hb9w.size; omega)
            have HT10 := Lib.hid (show NTwo XX W.heap.size w10 (Value.slice ga gn gc) v10 (ufit (inn.take (j + 1)) B) (umiss (inn.take (j + 1)) B) by
              rw [HFF.out, HSUF.out.2, HK.out]; exact hT10.swap)
            have HFV10 := Lib.hid (show ∀ z, z ∈ ufit (inn.take (j + 1)) B → bvalid z = true by rw [HFF.out]; exact HFV8.out)
            have HMV10 := Lib.hid (show ∀ z, z ∈ umiss (inn.take (j + 1)) B → bvalid z = true by
              rw [HSUF.out.2]
              intro z hz
              rcases List.mem_append.1 hz with h | h
              · exact HMV.out z h
              · exact List.all_eq_true.1 HRC.out z h)
            have hb10 : Below W.heap.size W w10 := hb9V.trans hB10
            clear g1 g2 hiss hT10 hB10
            go_wp2_with (at_builtin; refine wpList_append_run rfl _ _ 81 rfl rfl rfl hrun ?_)
            go_roundw
            case rel => exact ⟨j + 1, by omega, by go_num, HT10, HFV10, HMV10, hb10⟩
            case measure => simp [intOf]; omega
    · have HTK := Lib.hid (show inn.take j = inn from List.take_of_length_le (by rw [HM.out]; omega))
      rw [HTK.out] at hfv hmv HT HFV HMV
      rw [HF0.out] at hfv HT HFV
      rw [HM0.out] at hmv HT HMV
      have hFl : F0.length ≤ 400 := by rw [← HF0.out]; exact Nat.le_trans (ufit_len _ _) (by rw [HM.out]; omega)
      obtain ⟨nf, hnf⟩ : ∃ nf, F0.length = nf := ⟨_, rfl⟩
      obtain ⟨nm, hnm⟩ : ∃ nm, M0.length = nm := ⟨_, rfl⟩
      rw [hnf] at hfv hFl
      rw [hnm] at hmv
      subst hfv
      subst hmv
      have HRF := Lib.hid (show rvalid F0 = true from rvalid_iff.2 ⟨by omega, HFV.out⟩)
      have HNM := Lib.hid hnm
      have HX9 := Lib.hid (show XX = ZS U ov Y from HXX.out.symm)
      have hU9 := HU.out.below hwr
      have c2 := hU9.c2
      have f2 := hU9.f2
      obtain ⟨g1, g2, g3⟩ := hU9.over
      have HU9 := Lib.hid (And.intro g1 (And.intro g2 g3))
      have HEND := Lib.hid (And.intro (HT.out.a.sub (fun _ h => .inr h) : LN XX W.heap.size wr (.slice fa nf fc) F0) (HT.out.b.sub (fun _ h => .inr h) : LN XX W.heap.size wr (.slice ma nm mc) M0))
      clear hU9 hnf hnm g1 g2 g3 HOV
      go_wp2_with fail
      refine (ulimit_any fa nf fc _ c2 f2).mono ?_
      rintro e w8 ⟨rfl, hw8⟩
      rw [if_pos hFl] at hw8
      subst hw8
      go_wp2_with fail
      refine (ulimit_any ma nm mc _ c2 f2).mono ?_
      rintro e w9 ⟨rfl, hw9⟩
      by_cases h4 : nm ≤ 400
      · rw [if_pos h4] at hw9
        subst hw9
        have HRM := Lib.hid (show rvalid M0 = true from rvalid_iff.2 ⟨by rw [HNM.out]; exact h4, HMV.out⟩)
        go_wp2
        go_ret2
        exact ⟨_, _, rfl, hwr.mono hSw, fun _ => ⟨hwr, by rw [← HX9.out]; exact HEND.out.1.v, by rw [← HX9.out]; exact HEND.out.2.v⟩, fun h => (by rw [HRF.out, HRM.out] at h; cases h)⟩
      · rw [if_neg h4] at hw9
        subst hw9
        have HRM := Lib.hid (show rvalid M0 = false by
          rw [← Bool.not_eq_true, rvalid_iff, HNM.out]
          intro h; omega)
        go_wp2
        go_ret2
        exact ⟨_, _, rfl, (hwr.mono hSw).trans HU9.out.2.2, fun h => (by rw [HRM.out, Bool.and_false] at h; cases h), fun _ => ⟨HU9.out.1, (Tw.of hwr).trans HU9.out.2.1⟩⟩
end Go.Proofs.YtfcbbahlhjdefaaDoor
