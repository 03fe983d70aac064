/- Boxes of rules in new blocks; the probed packet of many boxes; regions whose operations a guard leaves out. -/
import Derived.Test.YtfcbbahlhjdefaaDoorUQb
import Derived.Test.YtfcbbahlhjdefaaDoorUQa
import Derived.Handy
import Derived.Test.YtfcbbahlhjdefaaDoorRgA
import Derived.Test.YtfcbbahlhjdefaaDoorFdS
import Derived.Test.YtfcbbahlhjdefaaDoorDxAJ
import Derived.Test.YtfcbbahlhjdefaaDoorRgX
/- Unfolding: the program's actions. -/
namespace Go.Proofs.YtfcbbahlhjdefaaDoor
open Go.RowKit
section
variable (w : World) (s : Option Addr) (n c : Nat)
theorem actionOf1 (ch : Int) : Calls Tryd.prog 40 #[.agg #[.slice s n c, .int .i64 1, .int .i64 ch]] w fun e w' => e = .returned (.iface 126 (.agg #[.bool true])) ∧ Below w.heap.size w w' := by
  have hal : Below w.heap.size w (w.alloc (.cells #[.slice s n c, .int .i64 1, .int .i64 ch] 34)) := (Below.refl _ _).alloc (Nat.le_refl _) _
  go_enter Tryd.func40, Tryd.ntmps40
  go_wp2
  go_ret
  exact ⟨rfl, hal⟩
theorem actionOf2 (ch : Int) : Calls Tryd.prog 40 #[.agg #[.slice s n c, .int .i64 2, .int .i64 ch]] w fun e w' => e = .returned (.iface 126 (.agg #[.bool false])) ∧ Below w.heap.size w w' := by
  have hal : Below w.heap.size w (w.alloc (.cells #[.slice s n c, .int .i64 2, .int .i64 ch] 34)) := (Below.refl _ _).alloc (Nat.le_refl _) _
  go_enter Tryd.func40, Tryd.ntmps40
  go_wp2
  go_ret
  exact ⟨rfl, hal⟩
theorem actionOf3 (ch : Int) : Calls Tryd.prog 40 #[.agg #[.slice s n c, .int .i64 3, .int .i64 ch]] w fun e w' => e = .returned (.iface 128 (.agg #[.int .i64 ch])) ∧ Below w.heap.size w w' := by
  have hal : Below w.heap.size w (w.alloc (.cells #[.slice s n c, .int .i64 3, .int .i64 ch] 34)) := (Below.refl _ _).alloc (Nat.le_refl _) _
  go_enter Tryd.func40, Tryd.ntmps40
  go_wp2
  go_ret
  exact ⟨rfl, hal⟩
theorem actionOf4 (ch : Int) : Calls Tryd.prog 40 #[.agg #[.slice s n c, .int .i64 4, .int .i64 ch]] w fun e w' => e = .returned (.iface 130 (.agg #[])) ∧ Below w.heap.size w w' := by
  have hal : Below w.heap.size w (w.alloc (.cells #[.slice s n c, .int .i64 4, .int .i64 ch] 34)) := (Below.refl _ _).alloc (Nat.le_refl _) _
  go_enter Tryd.func40, Tryd.ntmps40
  go_wp2
  go_ret
  exact ⟨rfl, hal⟩
theorem actionOf5 (a ch : Int) (h1 : ¬ a = 1) (h2 : ¬ a = 2) (h3 : ¬ a = 3) (h4 : ¬ a = 4) : Calls Tryd.prog 40 #[.agg #[.slice s n c, .int .i64 a, .int .i64 ch]] w fun e w' => e = .returned (.iface 131 (.agg #[])) ∧ Below w.heap.size w w' := by
  have hal : Below w.heap.size w (w.alloc (.cells #[.slice s n c, .int .i64 a, .int .i64 ch] 34)) := (Below.refl _ _).alloc (Nat.le_refl _) _
  have e1 : (a == 1) = false := by simpa using h1
  have e2 : (a == 2) = false := by simpa using h2
  have e3 : (a == 3) = false := by simpa using h3
  have e4 : (a == 4) = false := by simpa using h4
  clear h1 h2 h3 h4
  go_enter Tryd.func40, Tryd.ntmps40
  go_wp2
  go_ret
  exact ⟨rfl, hal⟩
end
theorem SxV.at {X : Nat → Prop} {w : World} {a : Option Addr} {n cap : Nat} {bs : List Bx} (h : SxV X w (.slice a n cap) bs) {k : Nat} {f : Bx} (hk : bs[k]? = some f) :
    ∃ b o a0 n0 p0 a1 n1 p1 a2 n2 p2 a3 n3 p3, a = some ⟨b, o, none⟩ ∧ b < w.heap.size ∧ w.cell? ⟨b, o + k * 4, none⟩ = some (.slice a0 n0 p0) ∧ w.cell? ⟨b, o + k * 4 + 1, none⟩ = some (.slice a1 n1 p1) ∧ w.cell? ⟨b, o + k * 4 + 2, none⟩ = some (.slice a2 n2 p2) ∧ w.cell? ⟨b, o + k * 4 + 3, none⟩ = some (.slice a3 n3 p3) ∧ All2 (SpV X w) [.slice a0 n0 p0, .slice a1 n1 p1, .slice a2 n2 p2, .slice a3 n3 p3] f := by
  obtain ⟨b, o, s0, s1, s2, s3, h1, h2, d0, d1, d2, d3, hps⟩ := h.issx.at hk
  obtain ⟨C0, K0, E0, C1, K1, E1, C2, K2, E2, C3, K3, E3, rfl, rfl, rfl, rfl⟩ := sl4_form (hps.mono (fun _ _ g => g.1))
  exact ⟨b, o, _, _, _, _, _, _, _, _, _, _, _, _, h1, h2, d0, d1, d2, d3, hps⟩
/-- A literal of one rule. -/
def LitV (z : R5) (w : World) (v : Value) : Prop := ∃ g, v = .slice (some ⟨g, 0, none⟩) 1 1 ∧ SlAt 5 R5.enc w v [z]
theorem litV_st (z : R5) : BStb (LitV z) := fun _ _ _ hb ⟨g, h1, h2⟩ => ⟨g, h1, h2.below hb⟩
theorem litV_new (w : World) (v0 v1 v2 v3 : Value) (acc : Bool) : LitV ⟨v0, v1, v2, v3, acc⟩ (w.alloc (.cells #[v0, v1, v2, v3, .bool acc] 87)) (.slice (some ⟨w.heap.size, 0, none⟩) 1 1) := by
  refine ⟨_, rfl, _, 1, rfl, by simp, by simp [maxLen], fun k x hk => ?_⟩
  match k, hk with
  | 0, hk =>
    cases hk
    refine ⟨w.heap.size, 0, rfl, by simp, fun j u hj => ?_⟩
    have := cellsNew w (R5.enc ⟨v0, v1, v2, v3, acc⟩) 87 j u hj
    rwa [Addr.add_lit] at this
  | k + 1, hk => simp at hk
/-- What a decision gives. -/
def DecR (S U : Nat) (Y : Nat → Prop) (cv ov : Value) (O : List Ft) (mv : Value) (w : World) (e : Ending) (w' : World) : Prop := ∃ ov', e = .returned mv ∧ Ui S U Y cv (decide (60 < O.length)) w' ov' O ∧ Tw U ov ov' w w' ∧ Below S w w'
set_option maxHeartbeats 4000000 in
set_option maxRecDepth 100000 in
theorem deciding_any {S U : Nat} {Y : Nat → Prop} {cv ov fv lv : Value} {out : List Ft} {F : List Bx} (acc : Bool) (ma : Option Addr) (mn mc : Nat) (w : World) (hU : Ui S U Y cv false w ov out) (hF : SxV (ZS U ov Y) w fv F) (hl : out.length ≤ 60) (hFl : F.length ≤ 400) (hY : ∀ k, Y k → k < w.heap.size) :
    Calls Tryd.prog 97 #[.agg #[.bool acc], .pointer (some ⟨U, 0, none⟩), lv, fv, .slice ma mn mc] w (DecR S U Y cv ov (out ++ F.map (fun b => ⟨b, acc⟩)) (.slice ma mn mc) w) := by
  obtain ⟨fa, fc, rfl, hfl, hfm⟩ := hF.form
  unfold maxLen at hfm
  obtain ⟨nf, hnf⟩ : ∃ nf, F.length = nf := ⟨_, rfl⟩
  have HNF := Lib.hid hnf
  rw [hnf] at hF hFl hfl ⊢
  obtain ⟨W, hW⟩ : ∃ W, w.alloc (.cells #[.bool acc] 126) = W := ⟨_, rfl⟩
  have hal : Below w.heap.size w W := by rw [← hW]; exact (Below.refl _ _).alloc (Nat.le_refl _) _
  have hzW : w.heap.size < W.heap.size := by rw [← hW]; simp
  have e0 : W.cell? ⟨w.heap.size, 0, none⟩ = some (.bool acc) := by rw [← hW]; simp
  have HU := Lib.hid (hU.below hal)
  have HF := Lib.hid (hF.below hal)
  have hSw : S ≤ w.heap.size := by have := hU.s; have := hU.lt; omega
  have hDU : w.heap.size ≠ U ∧ some w.heap.size ≠ ov.ownBlock := ⟨by have := hU.lt; omega, fun e => by have := (hU.o.lt _ e.symm).2; omega⟩
  have HDU := Lib.hid hDU
  have HAL := Lib.hid hal
  have HY := Lib.hid hY
  clear hU hF hnf hDU hal hY
  go_enter Tryd.func97, Tryd.ntmps97
  go_wp2_with fail
  go_loopw [15] (fun i wr => ∃ (j : Nat) (ov2 : Value), j ≤ nf ∧ i = .int .i64 j ∧ Hid (Ui S U Y cv false wr ov2 (out ++ (F.take j).map (fun b => ⟨b, acc⟩)) ∧ Tw U ov ov2 W wr ∧ Below S W wr)) (fun i _ => nf - (intOf i).toNat)
  case atStart => exact ⟨0, ov, by omega, rfl, Lib.hid ⟨by simpa using HU.out, Tw.refl _ _ _, Below.refl _ _⟩⟩
  case round =>
    clear hW
    obtain ⟨j, ov2, hj, rfl, HJ⟩ := hrel
    have hzr := HJ.out.2.1.1
    have hUl := HJ.out.1.lt
    by_cases hjm : j < nf
    · have j3 : (j : Int) < (nf : Int) := by omega
      have j4 : (0 : Int) ≤ (j : Int) := by omega
      obtain ⟨p, hp⟩ : ∃ p, F[j]? = some p := ⟨_, List.getElem?_eq_getElem (by rw [HNF.out]; exact hjm)⟩
      have HFJ := Lib.hid (HF.out.tw HJ.out.2.1)
      obtain ⟨b, o, a0, n0, p0, a1, n1, p1, a2, n2, p2, a3, n3, p3, rfl, hbl, d0, d1, d2, d3, hps⟩ := HFJ.out.at hp
      have HSU := Lib.hid (show (F.take (j + 1)).map (fun b => (⟨b, acc⟩ : Ft)) = (F.take j).map (fun b => ⟨b, acc⟩) ++ [⟨p, acc⟩] by rw [List.take_add_one, hp, Option.toList_some, List.map_append]; rfl)
      have HYr := Lib.hid (show ∀ z, Y z → z < wr.heap.size from fun z hz => by have := HY.out z hz; omega)
      have c0r := (HJ.out.2.1.cell (p := ⟨w.heap.size, 0, none⟩) hzW HDU.out.1 HDU.out.2).trans e0
      obtain ⟨O, hO⟩ : ∃ O, out ++ (F.take j).map (fun b => (⟨b, acc⟩ : Ft)) = O := ⟨_, rfl⟩
      have HO := Lib.hid hO
      have hOl : O.length ≤ 500 := by rw [← hO, List.length_append, List.length_map, List.length_take]; omega
      rw [hO] at HJ
      obtain ⟨oa, oc, hov⟩ := HJ.out.1.o.form
      obtain ⟨on, hon⟩ : ∃ on, O.length = on := ⟨_, rfl⟩
      rw [hon] at hov hOl
      have HON := Lib.hid hon
      subst hov
      have HPS := Lib.hid hps
      obtain ⟨V, hV⟩ : ∃ V, wr.alloc (.cells #[.slice a0 n0 p0, .slice a1 n1 p1, .slice a2 n2 p2, .slice a3 n3 p3] 84) = V := ⟨_, rfl⟩
      have halV : Below wr.heap.size wr V := by rw [← hV]; exact (Below.refl _ _).alloc (Nat.le_refl _) _
      have hzV : wr.heap.size < V.heap.size := by rw [← hV]; simp
      have l0 : V.cell? ⟨wr.heap.size, 0, none⟩ = some (.slice a0 n0 p0) := by rw [← hV]; simp
      have l1 : V.cell? ⟨wr.heap.size, 1, none⟩ = some (.slice a1 n1 p1) := by rw [← hV]; simp
      have l2 : V.cell? ⟨wr.heap.size, 2, none⟩ = some (.slice a2 n2 p2) := by rw [← hV]; simp
      have l3 : V.cell? ⟨wr.heap.size, 3, none⟩ = some (.slice a3 n3 p3) := by rw [← hV]; simp
      have HUV := Lib.hid (HJ.out.1.below halV)
      have u1 := HUV.out.c1
      have hUV := HUV.out.lt
      have c0V := (halV.cell (p := ⟨w.heap.size, 0, none⟩) (by simp only; omega)).trans c0r
      have hDV : w.heap.size < V.heap.size := by omega
      have HPV := Lib.hid (HPS.out.mono (fun _ _ g => (g.below halV)))
      have hSV : S ≤ V.heap.size := by omega
      have HHV := Lib.hid halV
      clear hp hps hO hon halV c0r
      go_wp2_with fail
      clear hV
      refine wp_region_u (W := V) 10 14 [BIs (.pointer (some ⟨U, 0, none⟩)), BIs (.pointer (some ⟨U, 0, none⟩)), BIs (.pointer (some ⟨U, 0, none⟩)), BIs (.pointer (some ⟨U, 1, none⟩)), BIs (.slice oa on oc), BIs (.agg #[.slice a0 n0 p0, .slice a1 n1 p1, .slice a2 n2 p2, .slice a3 n3 p3]), BIs (.pointer (some ⟨w.heap.size, 0, none⟩)), BIs (.bool acc), BIs (.agg #[.slice a0 n0 p0, .slice a1 n1 p1, .slice a2 n2 p2, .slice a3 n3 p3, .bool acc]), (LitV ⟨.slice a0 n0 p0, .slice a1 n1 p1, .slice a2 n2 p2, .slice a3 n3 p3, acc⟩)] (bof [BIs (.pointer (some ⟨U, 0, none⟩)), BIs (.pointer (some ⟨U, 0, none⟩)), BIs (.pointer (some ⟨U, 0, none⟩)), BIs (.pointer (some ⟨U, 1, none⟩)), BIs (.slice oa on oc), BIs (.agg #[.slice a0 n0 p0, .slice a1 n1 p1, .slice a2 n2 p2, .slice a3 n3 p3]), BIs (.pointer (some ⟨w.heap.size, 0, none⟩)), BIs (.bool acc), BIs (.agg #[.slice a0 n0 p0, .slice a1 n1 p1, .slice a2 n2 p2, .slice a3 n3 p3, .bool acc]), (fun _ _ => True), (fun w v => w.cell? ⟨U, 1, none⟩ = some (.slice oa on oc) ∧ w.frozen? ⟨U, 1, none⟩ = false ∧ Ui S U Y cv false (w.setCell ⟨U, 1, none⟩ v) v (O ++ [⟨p, acc⟩]) ∧ Tw U (.slice oa on oc) v V (w.setCell ⟨U, 1, none⟩ v) ∧ Below S V (w.setCell ⟨U, 1, none⟩ v)), BIs (.pointer (some ⟨U, 0, none⟩)), BIs (.pointer (some ⟨U, 1, none⟩))]) (fun w9 => ∃ v, Ui S U Y cv false w9 v (O ++ [⟨p, acc⟩]) ∧ Tw U (.slice oa on oc) v V w9 ∧ Below S V w9) (by kernel_rfl) (by decide) rfl (fun u => by simp only [frU, Act.put, List.setIfInBounds_toArray, List.set_cons_succ, List.set_cons_zero, Nat.zero_add, Nat.reduceAdd]; exact rfl) (by kernel_rfl) (by kernel_rfl) ⟨bst_is _, bst_is _, bst_is _, bst_is _, bst_is _, bst_is _, bst_is _, bst_is _, bst_is _, (litV_st _), trivial⟩ ?_ ?_; (exact ⟨stUf rfl (by decide) (fun u w3 hC hd Q K hK => by (go_step; exact hK _ _ rfl (Below.refl _ _) rfl)) (fun u w3 hd Q K hK => by (dsimp only at hK ⊢; go_step; exact hK _ rfl rfl)), stU rfl (by decide) (by kernel_rfl) (fun u w3 hC hd Q K hK => by (go_step; exact hK _ _ rfl (Below.refl _ _) rfl)), stU rfl (by decide) (by kernel_rfl) (fun u w3 hC hd Q K hK => by (have hu := bis (w := w3) (hd 1 rfl); rw [hu] at hK ⊢; clear hu; go_step; exact hK _ _ rfl (Below.refl _ _) rfl)), stU rfl (by decide) (by kernel_rfl) (fun u w3 hC hd Q K hK => by (have hu := bis (w := w3) (hd 2 rfl); rw [hu] at hK ⊢; clear hu; go_step; exact hK _ _ rfl (Below.refl _ _) rfl)), stU rfl (by decide) (by kernel_rfl) (fun u w3 hC hd Q K hK => by (have hu := bis (w := w3) (hd 3 rfl); rw [hu] at hK ⊢; clear hu; have z0 := (hC.cell (p := ⟨U, 1, none⟩) hUV).trans u1; go_step; exact hK _ _ rfl (Below.refl _ _) rfl)), stU rfl (by decide) (by kernel_rfl) (fun u w3 hC hd Q K hK => by (have z0 := (hC.cell (p := ⟨wr.heap.size, 0, none⟩) hzV).trans l0; have z1 := (hC.cell (p := ⟨wr.heap.size, 1, none⟩) hzV).trans l1; have z2 := (hC.cell (p := ⟨wr.heap.size, 2, none⟩) hzV).trans l2; have z3 := (hC.cell (p := ⟨wr.heap.size, 3, none⟩) hzV).trans l3; go_step; exact hK _ _ rfl (Below.refl _ _) rfl)), stU rfl (by decide) (by kernel_rfl) (fun u w3 hC hd Q K hK => by (go_step; exact hK _ _ rfl (Below.refl _ _) rfl)), stU rfl (by decide) (by kernel_rfl) (fun u w3 hC hd Q K hK => by (have hu := bis (w := w3) (hd 6 rfl); rw [hu] at hK ⊢; clear hu; have z0 := (hC.cell (p := ⟨w.heap.size, 0, none⟩) hDV).trans c0V; go_step; exact hK _ _ rfl (Below.refl _ _) rfl)), stU rfl (by decide) (by kernel_rfl) (fun u w3 hC hd Q K hK => by (have hu := bis (w := w3) (hd 5 rfl); rw [hu] at hK ⊢; clear hu; have hu := bis (w := w3) (hd 7 rfl); rw [hu] at hK ⊢; clear hu; go_step; exact hK _ _ rfl (Below.refl _ _) rfl)), stU rfl (by decide) (by kernel_rfl) (fun u w3 hC hd Q K hK => by (have hu := bis (w := w3) (hd 8 rfl); rw [hu] at hK ⊢; clear hu; go_step; exact hK _ _ rfl ((Below.refl _ _).alloc (Nat.le_refl _) _) (litV_new _ _ _ _ _ _))), stUt rfl (by decide) (fun u w3 hC hd Q K hK => by (dsimp only at hK ⊢; have hu := bis (w := w3) (hd 4 rfl); rw [hu] at hK ⊢; clear hu; obtain ⟨gg, hu, hlt5⟩ := hd 9 rfl; rw [hu] at hK ⊢; have hkeep := hu; clear hu; rw [hkeep] at hlt5; obtain ⟨v5, w5, hrun, hc5, hf5, hO5, hT5, hB5⟩ := Ui.push 49 (HUV.out.below hC) hlt5 (HPV.out.mono (fun _ _ g => g.below hC)) (by rw [HON.out]; omega) (by have := hC.size; omega) (fun z hz => by have := HYr.out z hz; have := hC.size; omega); refine wp_append_run (.tmp 23) (.tmp 28) 49 rfl rfl rfl hrun ?_; refine hK _ _ rfl (fun j hj h => ?_) ?_; (match j, hj, h with | 0, _, h => exact h | 1, _, h => exact h | 2, _, h => exact h | 3, _, h => exact h | 4, _, h => exact h | 5, _, h => exact h | 6, _, h => exact h | 7, _, h => exact h | 8, _, h => exact h | 9, _, _ => exact trivial | j + 10, hj, _ => exact absurd hj (by omega)); exact ⟨hc5, hf5, hO5, (Tw.of hC).trans hT5, (hC.mono hSV).trans hB5⟩)), stUb rfl (by decide) (by decide) (by kernel_rfl) (fun u w3 hd Q K hK => by (dsimp only at hK ⊢; have hu := bis (w := w3) (hd 0 rfl); rw [hu] at hK ⊢; clear hu; go_step; exact hK _ rfl rfl)), stUb rfl (by decide) (by decide) (by kernel_rfl) (fun u w3 hd Q K hK => by (dsimp only at hK ⊢; have hu := bis (w := w3) (hd 11 rfl); rw [hu] at hK ⊢; clear hu; go_step; exact hK _ rfl rfl)), stUl rfl (by decide) rfl (fun u w3 hd Q K hK => by (dsimp only at hK ⊢; have hu := bis (w := w3) (hd 12 rfl); rw [hu] at hK ⊢; clear hu; have h5 := hd 10 rfl; generalize u 10 = v5 at *; obtain ⟨qa, qn, qc, hqq⟩ : ∃ a n c, v5 = Value.slice a n c := (let ⟨a, c, h⟩ := h5.2.2.1.o.form; ⟨a, _, c, h⟩); subst hqq; have e0 := h5.1; have e1 := h5.2.1; go_step; exact hK _ _ rfl ⟨_, h5.2.2.1, h5.2.2.2.1, h5.2.2.2.2⟩)), trivial⟩); intro u w9 hD
      obtain ⟨v9, hO9, hT9, hB9⟩ := hD
      have HJ9 := Lib.hid (show Ui S U Y cv false w9 v9 (out ++ (F.take (j + 1)).map (fun b => ⟨b, acc⟩)) ∧ Tw U ov v9 W w9 ∧ Below S W w9 from ⟨by rw [HSU.out, ← List.append_assoc, HO.out]; exact hO9, (HJ.out.2.1.trans (Tw.of HHV.out)).trans hT9, (HJ.out.2.2.trans (HHV.out.mono (by omega))).trans hB9⟩)
      clear hO9 hT9 hB9
      go_wp2
      go_roundw
      case rel => exact ⟨j + 1, v9, by omega, by go_num, HJ9⟩
      case measure => simp [intOf]; omega
    · have hjn : F.take j = F := List.take_of_length_le (by rw [HNF.out]; omega)
      rw [hjn] at HJ
      have j3 : (nf : Int) ≤ (j : Int) := by omega
      obtain ⟨O, hO⟩ : ∃ O, out ++ F.map (fun b => (⟨b, acc⟩ : Ft)) = O := ⟨_, rfl⟩
      rw [hO] at HJ
      obtain ⟨oa, oc, hov⟩ := HJ.out.1.o.form
      obtain ⟨on, hon⟩ : ∃ on, O.length = on := ⟨_, rfl⟩
      rw [hon] at hov
      subst hov
      have HOO := Lib.hid (And.intro hO hon)
      have u1 := HJ.out.1.c1
      have u2 := HJ.out.1.c2
      have v2 := HJ.out.1.f2
      have HEND := Lib.hid (And.intro ((Tw.of HAL.out).trans HJ.out.2.1) ((HAL.out.mono hSw).trans HJ.out.2.2))
      clear hO hon hjn
      by_cases h60 : 60 < on
      · have h6 : (60 : Int) < (on : Int) := by omega
        obtain ⟨g1, g2, g3⟩ := HJ.out.1.over
        have HG := Lib.hid (And.intro g1 (And.intro g2 g3))
        clear g1 g2 g3
        go_wp2
        go_ret
        exact ⟨_, rfl, by rw [HOO.out.1, HOO.out.2, decide_eq_true h60]; exact HG.out.1, HEND.out.1.trans HG.out.2.1, HEND.out.2.trans HG.out.2.2⟩
      · have h6 : ¬ (60 : Int) < (on : Int) := by omega
        go_wp2
        go_ret
        exact ⟨_, rfl, by rw [HOO.out.1, HOO.out.2, decide_eq_false h60]; exact HJ.out.1, HEND.out.1, HEND.out.2⟩
set_option maxHeartbeats 2000000 in
theorem returning_any {X : Nat → Prop} {Lb lo : Nat} {uv lv fv : Value} {left F : List Bx} (ma : Option Addr) (mn mc : Nat) (w : World) (hLb : Lb < w.heap.size) (c0 : w.cell? ⟨Lb, 0, none⟩ = some lv) (f0 : w.frozen? ⟨Lb, 0, none⟩ = false) (hL : LN X lo w lv left) (hXL : X Lb) (hF : SxV (fun k => some k = lv.ownBlock ∨ X k) w fv F) (hl : left.length + F.length ≤ 100000) (hlo : lo ≤ w.heap.size) (hX : ∀ k, X k → k < w.heap.size) :
    Calls Tryd.prog 103 #[.agg #[], uv, .pointer (some ⟨Lb, 0, none⟩), fv, .slice ma mn mc] w fun e w' => ∃ lv' w1, e = .returned (.slice ma mn mc) ∧ w' = w1.setCell ⟨Lb, 0, none⟩ lv' ∧ w1.cell? ⟨Lb, 0, none⟩ = some lv ∧ w1.frozen? ⟨Lb, 0, none⟩ = false ∧ LN X lo w1 lv' (left ++ F) ∧ Below lo w w1 ∧ w.heap.size ≤ w1.heap.size ∧ (∀ k, k < w.heap.size → some k ≠ lv.ownBlock → w1.heap[k]? = w.heap[k]?) ∧ (∀ z, lv'.ownBlock = some z → lv.ownBlock = some z ∨ w.heap.size ≤ z) := by
  obtain ⟨W, hW⟩ : ∃ W, w.alloc (.cells #[] 130) = W := ⟨_, rfl⟩
  have hal : Below w.heap.size w W := by rw [← hW]; exact (Below.refl _ _).alloc (Nat.le_refl _) _
  have hzW := hal.size
  obtain ⟨fa, fc, rfl, hfl, hfm⟩ := hF.form
  obtain ⟨la, lc, hlv⟩ := hL.form
  obtain ⟨nl, hnl⟩ : ∃ n, left.length = n := ⟨_, rfl⟩
  obtain ⟨nf, hnf⟩ : ∃ n, F.length = n := ⟨_, rfl⟩
  rw [hnl] at hlv hl
  rw [hnf] at hF hl ⊢
  have cW := (hal.cell (p := ⟨Lb, 0, none⟩) hLb).trans c0
  have fW := (hal.frozen (p := ⟨Lb, 0, none⟩) hLb).trans f0
  obtain ⟨v1, w1, hrun, h1, h2, h3⟩ := LN.append 81 (hL.below hal) (SxV.issx (hF.below hal)) (by rw [hnl, hnf]; omega) (by omega) (fun k hk => by have := hX k hk; omega)
  have hne : some Lb ≠ lv.ownBlock := fun e => hL.2 Lb e.symm hXL
  have hbl := h2.g.block Lb (by omega) hne
  have c1 := (World.cell?_of_block (a := ⟨Lb, 0, none⟩) hbl).trans cW
  have f1 := (World.frozen?_of_block (a := ⟨Lb, 0, none⟩) hbl).trans fW
  obtain ⟨qa, qn, qc, hqq⟩ : ∃ a n c, v1 = Value.slice a n c := (let ⟨a, c, h⟩ := h1.form; ⟨a, _, c, h⟩)
  have HR := Lib.hid (show LN X lo w1 v1 (left ++ F) ∧ Below lo w w1 ∧ w.heap.size ≤ w1.heap.size ∧ (∀ k, k < w.heap.size → some k ≠ lv.ownBlock → w1.heap[k]? = w.heap[k]?) ∧ (∀ z, v1.ownBlock = some z → lv.ownBlock = some z ∨ w.heap.size ≤ z) from
    ⟨h1, (hal.mono hlo).trans h3, by have := h2.g.size; omega, fun k k1 k2 => (h2.g.block k (by omega) k2).trans (hal.block k k1), fun z hz => (h2.at' z hz).imp id (fun e => by omega)⟩)
  subst hqq
  subst hlv
  clear hal hL hF hX hnl hnf h1 h2 h3 hbl hne
  go_enter Tryd.func103, Tryd.ntmps103
  go_wp2_with (at_builtin; refine wpList_append_run rfl _ _ 81 rfl rfl rfl hrun ?_)
  go_ret
  exact ⟨_, w1, rfl, rfl, c1, f1, HR.out.1, HR.out.2.1, HR.out.2.2.1, HR.out.2.2.2.1, HR.out.2.2.2.2⟩
set_option maxHeartbeats 2000000 in
theorem passing_any {X : Nat → Prop} {uv lv fv mv : Value} {F M : List Bx} (w : World) (hF : SxV X w fv F) (hM : SxV X w mv M) (hFl : F.length ≤ 100000) (hMl : M.length ≤ 100000) (hX : ∀ k, X k → k < w.heap.size) :
    Calls Tryd.prog 106 #[.agg #[], uv, lv, fv, mv] w fun e w' => ∃ z, e = .returned z ∧ SxV X w' z (M ++ F) ∧ Below w.heap.size w w' := by
  obtain ⟨fa, fc, hfv, hfl, hfm⟩ := hF.form
  obtain ⟨ma, mc, hmv, hml, hmm⟩ := hM.form
  obtain ⟨nf, hnf⟩ : ∃ n, F.length = n := ⟨_, rfl⟩
  obtain ⟨nm, hnm⟩ : ∃ n, M.length = n := ⟨_, rfl⟩
  rw [hnf] at hfv
  rw [hnm] at hmv
  subst hfv
  subst hmv
  obtain ⟨W, hW⟩ : ∃ W, (w.alloc (.cells #[] 131)).alloc (.cells #[.slice ma nm mc, .slice fa nf fc] 81) = W := ⟨_, rfl⟩
  have hal : Below w.heap.size w W := by rw [← hW]; (repeat' (first | with_reducible exact Below.refl _ _ | with_reducible assumption | with_reducible refine Below.setCell ?_ ?_ _ | with_reducible refine Below.alloc ?_ ?_ _ | with_reducible refine Below.drew ?_ | with_reducible refine belDrewN ?_ _ | with_reducible refine Below.trans ?_ (Below.mono (by assumption) ?_) | omega | (simp; omega) | (simp; done)))
  have hg : w.heap.size + 1 < W.heap.size := by rw [← hW]; simp
  have HA := alloc2_cells w #[] #[.slice ma nm mc, .slice fa nf fc] 131 81
  rw [hW] at HA
  have c0 : W.cell? ⟨w.heap.size + 1, 0, none⟩ = some (.slice ma nm mc) := (HA.2 0).1.trans rfl
  have c1 : W.cell? ⟨w.heap.size + 1, 1, none⟩ = some (.slice fa nf fc) := (HA.2 1).1.trans rfl
  have HC := concat_any W hg c0 c1 (hM.below hal) (hF.below hal) hMl hFl (fun k hk => by have := hX k hk; omega)
  have HCC := Lib.hid HC
  clear HC hF hM hX hnf hnm c0 c1 hFl hMl hfl hml hfm hmm
  go_enter Tryd.func106, Tryd.ntmps106
  go_wp2_with fail
  refine HCC.out.mono ?_
  rintro e w1 ⟨z, rfl, hz, hb⟩
  go_wp2
  go_ret
  exact ⟨_, rfl, hz.v, hal.trans (hb.mono hal.size)⟩
end Go.Proofs.YtfcbbahlhjdefaaDoor
namespace Go.Proofs.YtfcbbahlhjdefaaDoor
open Go.RowKit
section
variable (P : Program) (l : List Oper) (W : World) (Fs : List (World → Value → Prop)) (fr : (Nat → Value) → Act)
def StepH (i : Nat) (o : Oper) : Prop :=
  ∀ (u : Nat → Value) (w : World), Below W.heap.size W w → (∀ j, depOn o j = true → bof Fs j w (u j)) → (Region.wanted o (yielded l.toArray (fr u).tmps) = true ∧
    ∀ (Q : Exit → Act → World → Prop) (K : Act → World → Prop), (∀ a' w', a' = (fr u).put o.dst (slotOf o.dst a') → Below w.heap.size w w' → bof Fs i w' (slotOf o.dst a') → K a' w') → o.wp P (fr u) w K Q) ∨
    (Region.wanted o (yielded l.toArray (fr u).tmps) = false ∧ bof Fs i w undef)
def StepsH : List Oper → Nat → Prop
  | [], _ => True
  | o :: r, i => StepH P l W Fs fr i o ∧ StepsH r (i + 1)
end
section
variable {P : Program} {l : List Oper} {W : World} {Fs : List (World → Value → Prop)} {fr : (Nat → Value) → Act}
theorem stepsH_ok {N : Nat} : ∀ (r : List Oper) (i : Nat), StepsH P l W Fs fr r i → StepsOk P l N (fun _ w => Below W.heap.size W w) (fun a b => Below a.heap.size a b) (bof Fs) fr r i
  | [], _, _ => trivial
  | _ :: r, i, h => ⟨fun _ u w _ hC hd => by
      rcases h.1 u w hC hd with ⟨h1, h2⟩ | ⟨h1, h2⟩
      · exact ⟨fun _ Q K hK => h2 Q K (fun a' w' ha hb hF => hK a' w' ha (hC.trans (hb.mono hC.size)) hb hF), fun hw => (by rw [h1] at hw; cases hw)⟩
      · exact ⟨fun hw => (by rw [h1] at hw; cases hw), fun _ => ⟨hC, Below.refl _ _, h2⟩⟩, stepsH_ok r (i + 1) h.2⟩
theorem wp_region_belH {id : Nat} {Q : Exit → Act → World → Prop} {a0 : Act} (Fs : List (World → Value → Prop)) (hm : P.follows .mixedOrders = true) (hfr : ∀ u, frU u l 0 a0 = fr u) (hd : (dstsApart l && depsBefore l 0) = true)
    (hst : BAll Fs) (hs : StepsH P l W Fs fr l 0)
    (hend : ∀ u w', Below W.heap.size W w' → (∀ i, i < l.length → bof Fs i w' (u i)) → Q .normal (fr u) w') : (Code.region id l.toArray true).wp P Q a0 W :=
  wp_region_rel (N := l.length) (fun _ w => Below W.heap.size W w) (fun a b => Below a.heap.size a b) (bof Fs) hm rfl hfr hd (fun i w w' v hb h => bof_stb Fs hst i w w' v hb h)
    ⟨rfl, rfl, rfl, Nat.le_refl _, fun _ _ => rfl⟩ (stepsH_ok l 0 hs) hend
theorem stH {i : Nat} {o : Oper}
    (h : ∀ (u : Nat → Value) (w : World), Below W.heap.size W w → (∀ j, depOn o j = true → bof Fs j w (u j)) → (Region.wanted o (yielded l.toArray (fr u).tmps) = true ∧
      ∀ (Q : Exit → Act → World → Prop) (K : Act → World → Prop), (∀ a' w', a' = (fr u).put o.dst (slotOf o.dst a') → Below w.heap.size w w' → bof Fs i w' (slotOf o.dst a') → K a' w') → o.wp P (fr u) w K Q) ∨
      (Region.wanted o (yielded l.toArray (fr u).tmps) = false ∧ bof Fs i w undef)) : StepH P l W Fs fr i o := h
end
end Go.Proofs.YtfcbbahlhjdefaaDoor
