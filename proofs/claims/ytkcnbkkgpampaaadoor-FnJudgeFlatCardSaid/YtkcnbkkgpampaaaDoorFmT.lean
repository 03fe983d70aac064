/- Boxes and rules without calls: copies for the program. -/
import Derived.Test.YtkcnbkkgpampaaaDoorFmO
namespace Go.Proofs.YtkcnbkkgpampaaaDoor
open Go.RowKit
def RetRw (b : Bx) (w : World) (e : Ending) (w' : World) : Prop := ∃ v, e = .returned v ∧ OwnRw w' w.heap.size w'.heap.size v b ∧ Below w.heap.size w w'
theorem set_rep {α : Type} (vs : List α) (n k : Nat) (z y : α) (hl : vs.length = k) (hk : k < n) : (vs ++ List.replicate (n - k) z).set k y = (vs ++ [y]) ++ List.replicate (n - (k + 1)) z := by
  rw [List.set_append_right _ _ (by omega), hl, Nat.sub_self, show n - k = (n - (k + 1)) + 1 from by omega, List.replicate_succ, List.set_cons_zero, List.append_assoc]
  rfl
set_option maxHeartbeats 2000000 in
theorem toSpanSS_any {lo : Nat} (b : Bx) (v : Value) (w : World) (hs : Rws lo w v b) (hn : b.length ≤ 1048576) (he : ∀ (k : Nat) xs, b[k]? = some xs → xs.length ≤ 1048576) :
    Calls Tryd.prog 120 #[v] w (RetRw b w) := by
  obtain ⟨a, cap, rfl, hlc, hcm⟩ := hs.form
  unfold maxLen at hcm
  obtain ⟨i0, hi, hz0, hz1, hz2⟩ := info_parts infoSl
  have HEE := Lib.hid he
  clear he
  go_enter Tryd.func120, Tryd.ntmps120
  go_wp2_with (at_make; refine wpList_make_full _ rfl _ _ 48 rfl w.heap.size 100 i0 _ 1 Tryd.underlying48 hi hz0 hz1 _ _ _ _ b.length rfl rfl rfl rfl ?b1 ?b2 ?b3 ?_)
  case b1 => rw [hz2]; omega
  case b2 => simp only [maxLen]; omega
  case b3 => omega
  intro w1 hown1 hgrow1
  have hb1 : Below w.heap.size w w1 := (Below.refl _ _).grown hgrow1 (Nat.le_refl _) (fun k hk => by cases hk)
  have HO1 := Lib.hid (show OwnSl w.heap.size 100 1 enc1 w1 (.slice (some ⟨w.heap.size, 0, none⟩) b.length b.length) (List.replicate b.length (Value.slice none 0 0)) by unfold OwnSl; rw [List.length_replicate, ← madeFlat (sz := 1) (enc := enc1) (fun _ => rfl) (by omega) (.slice none 0 0) (Value.slice none 0 0) rfl, Nat.mul_one]; exact hown1)
  clear hown1 hgrow1
  generalize hnn : b.length = n at *
  have HN := Lib.hid hnn
  clear hnn
  have hzw1 : w.heap.size < w1.heap.size := by
    rcases OwnSl.form HO1.out with ⟨h, _⟩ | ⟨g, cp, h, _, h2, _⟩
    · cases h
    · obtain ⟨h3, _, _⟩ := Value.slice.inj h; cases h3; exact h2
  go_wp2_with fail
  go_loopw [4] (fun i wr => ∃ (k : Nat) (vs : List Value), k ≤ n ∧ i = .int .i64 k ∧ vs.length = k ∧ OwnSl w.heap.size 100 1 enc1 wr (.slice (some ⟨w.heap.size, 0, none⟩) n n) (vs ++ List.replicate (n - k) (Value.slice none 0 0)) ∧ OwnC (PSp wr) (w.heap.size + 1) wr.heap.size vs (b.take k) ∧ Below w.heap.size w wr ∧ w.heap.size < wr.heap.size) (fun i _ => n - (intOf i).toNat)
  case atStart => exact ⟨0, [], by omega, rfl, rfl, by simpa using HO1.out, hzw1, hb1, hzw1⟩
  case round =>
    obtain ⟨k, vs, hk, rfl, hvs, hown, hC, hbr, hzw⟩ := hrel
    have HO := Lib.hid hown
    have HC := Lib.hid hC
    have HVS := Lib.hid hvs
    clear hown hC HO1 hb1 hzw1 hvs
    have hzr := hbr.size
    by_cases hlt : k < n
    · obtain ⟨xs, hx⟩ : ∃ xs, b[k]? = some xs := ⟨_, List.getElem?_eq_getElem (by rw [HN.out]; exact hlt)⟩
      obtain ⟨b', o, sv, rfl, hbl, c0, hsv⟩ := (hs.below hbr).at hx
      have HX := Lib.hid hx
      have i1 : (k : Int) < (n : Int) := by omega
      have i2 : (0 : Int) ≤ (k : Int) := by omega
      have hxl := HEE.out k xs hx
      clear hx
      go_wp2_with fail
      refine (toSpanS_any xs _ _ hsv.z hxl).mono ?_
      rintro e w2 ⟨v2, rfl, ho2, hb2⟩
      have HO2 := Lib.hid (OwnSl.kept HO.out hb2)
      have hz2' := hb2.size
      have hP2 : PSp w2 wr.heap.size w2.heap.size v2 xs := ⟨ho2, fun x hx => (World.ownsRow.lt ho2 x hx).2, hz2'⟩
      have hC2 : OwnC (PSp w2) (w.heap.size + 1) wr.heap.size vs (b.take k) := OwnC.imp PSp.le HC.out (fun l h x y _ _ g3 => OwnI.keep g3 (Kpi.of hb2))
      have hlen : (vs ++ List.replicate (n - k) (Value.slice none 0 0)).length = n := by simp [HVS.out]; omega
      have HL := Lib.hid hlen; clear hlen
      obtain ⟨hst, hgr⟩ := OwnSl.store (sz := 1) (enc := enc1) (fun _ => rfl) HL.out.symm HO2.out (k := k) (by rw [HL.out]; exact hlt) v2
      rw [set_rep vs n k _ v2 HVS.out hlt] at hst
      have hfz : ∀ j, w2.frozen? ⟨w.heap.size, j, none⟩ = false := OwnSl.frz HO2.out
      have hcz := OwnSl.cell (sz := 1) (enc := enc1) (fun _ => rfl) HO2.out (k := k) (y := Value.slice none 0 0) (by rw [List.getElem?_append_right (by rw [HVS.out]; exact Nat.le_refl _), HVS.out, Nat.sub_self, List.getElem?_replicate, if_pos (by omega)])
      have d0 := hcz 0 _ rfl
      simp only [Nat.add_zero, Nat.mul_one, wSet] at d0 hst hgr
      have hK : Kpi (w.heap.size + 1) wr.heap.size w2 (w2.setCell ⟨w.heap.size, k, none⟩ v2) := ⟨hgr.size, fun j g1 _ g3 => hgr.block j g3 (by intro e; cases e; omega)⟩
      have hK' : Kpi wr.heap.size w2.heap.size w2 (w2.setCell ⟨w.heap.size, k, none⟩ v2) := ⟨hgr.size, fun j g1 _ g3 => hgr.block j g3 (by intro e; cases e; omega)⟩
      have hC3 : OwnC (PSp (w2.setCell ⟨w.heap.size, k, none⟩ v2)) (w.heap.size + 1) (w2.setCell ⟨w.heap.size, k, none⟩ v2).heap.size (vs ++ [v2]) (b.take (k + 1)) := by
        rw [List.take_add_one, HX.out]
        refine OwnC.snoc (OwnC.imp PSp.le hC2 (fun l h x y g1 g2 g3 => OwnI.keep g3 (hK.sub g1 g2))) (fun l hl => ?_) (Nat.le_trans hz2' hgr.size)
        obtain ⟨q1, q2, q3⟩ := OwnI.keep hP2 hK'
        exact ⟨OwnSl.mono q1 hl, fun x hx => Nat.lt_of_lt_of_le (q2 x hx) hgr.size, Nat.le_trans hl (Nat.le_trans hz2' hgr.size)⟩
      have hbw : Below w.heap.size w (w2.setCell ⟨w.heap.size, k, none⟩ v2) := (hbr.trans (hb2.mono hzr)).grown hgr (by omega) (fun k hk => by cases hk; omega)
      obtain ⟨va, vc, hv2, -, -⟩ := (OwnSp.sps ho2).form
      have HST := Lib.hid hst
      have HC3 := Lib.hid hC3
      have HBW := Lib.hid hbw
      have hsz3 : w.heap.size < (w2.setCell ⟨w.heap.size, k, none⟩ v2).heap.size := Nat.lt_of_lt_of_le (by omega) hgr.size
      subst hv2
      clear hcz hst hgr hK hK' hC3 hbw hP2 hC2 ho2 hb2 hsv c0 hs
      go_wp2
      go_roundw
      case rel => exact ⟨k + 1, _, by omega, by go_num, by simp [HVS.out], HST.out, HC3.out, HBW.out, hsz3⟩
      case measure => simp [intOf]; omega
    · have hkn : k = n := by omega
      subst hkn
      have HF := Lib.hid (show OwnRw wr w.heap.size wr.heap.size (.slice (some ⟨w.heap.size, 0, none⟩) k k) b from by
        have h1 := HO.out
        rw [Nat.sub_self, List.replicate_zero, List.append_nil] at h1
        have h2 := HC.out
        rw [List.take_of_length_le (by rw [HN.out]; exact Nat.le_refl _)] at h2
        exact ⟨vs, w.heap.size + 1, ⟨h1, fun x hx => by cases hx; exact Nat.lt_succ_self _, by omega⟩, h2⟩)
      go_wp2
      go_ret
      exact ⟨_, rfl, HF.out, hbr⟩
theorem OwnI.mono {α : Type} {e sz : Nat} {enc : α → List Value} {w : World} {lo lo' hi : Nat} {v : Value} {xs : List α} (h : OwnI e sz enc w lo hi v xs) (hl : lo' ≤ lo) : OwnI e sz enc w lo' hi v xs :=
  ⟨OwnSl.mono h.1 hl, h.2.1, Nat.le_trans hl h.2.2⟩
theorem OwnRw.mono {w : World} {lo lo' hi hi' : Nat} {v : Value} {b : Bx} (h : OwnRw w lo hi v b) (hl : lo' ≤ lo) (hh : hi ≤ hi') : OwnRw w lo' hi' v b := by
  obtain ⟨vs, mid, h1, h2⟩ := h
  exact ⟨vs, mid, h1.mono hl, h2.hi hh⟩
theorem OwnFs.mono {w : World} {lo lo' hi hi' : Nat} {v : Value} {b : List Ft} (h : OwnFs w lo hi v b) (hl : lo' ≤ lo) (hh : hi ≤ hi') : OwnFs w lo' hi' v b := by
  obtain ⟨vs, mid, h1, h2⟩ := h
  exact ⟨vs, mid, h1.mono hl, h2.hi hh⟩
def RetBx (b : Bx) (w : World) (e : Ending) (w' : World) : Prop := ∃ v, e = .returned (.agg #[v]) ∧ OwnRw w' w.heap.size w'.heap.size v b ∧ Below w.heap.size w w'
set_option maxHeartbeats 1000000 in
theorem toBox_any {lo : Nat} (b : Bx) (v : Value) (w : World) (hs : Rws lo w v b) (hn : b.length ≤ 1048576) (he : ∀ (k : Nat) xs, b[k]? = some xs → xs.length ≤ 1048576) :
    Calls Tryd.prog 97 #[.agg #[v]] w (RetBx b w) := by
  obtain ⟨a, cap, rfl, hlc, hcm⟩ := hs.form
  go_enter Tryd.func97, Tryd.ntmps97
  go_wp2_with fail
  refine (toSpanSS_any b _ _ (hs.below (by (repeat' (first | with_reducible exact Below.refl _ _ | with_reducible assumption | with_reducible refine Below.setCell ?_ ?_ _ | with_reducible refine Below.alloc ?_ ?_ _ | with_reducible refine Below.drew ?_ | with_reducible refine belDrewN ?_ _ | with_reducible refine Below.trans ?_ (Below.mono (by assumption) ?_) | omega | (simp; omega) | (simp; done))))) hn he).mono ?_
  rintro e w1 ⟨v1, rfl, ho1, hb1⟩
  have hz := hb1.size; simp at hz
  have kk := ownCells hb1 (w.heap.size) (by (try simp) <;> omega); have a0 := kk 0; clear kk; (try simp [go_sem] at a0)
  have kk := ownCells hb1 (w.heap.size + 1) (by (try simp) <;> omega); have r0 := kk 0; clear kk; (try simp [go_sem] at r0)
  have kk := ownCells hb1 (w.heap.size + 2) (by (try simp) <;> omega); have q0 := kk 0; clear kk; (try simp [go_sem] at q0)
  have hw1 : Below w.heap.size w w1 := by (repeat' (first | with_reducible exact Below.refl _ _ | with_reducible assumption | with_reducible refine Below.setCell ?_ ?_ _ | with_reducible refine Below.alloc ?_ ?_ _ | with_reducible refine Below.drew ?_ | with_reducible refine belDrewN ?_ _ | with_reducible refine Below.trans ?_ (Below.mono (by assumption) ?_) | omega | (simp; omega) | (simp; done)))
  obtain ⟨hc, hf⟩ := bcell hb1
  have hzw_0 : w.heap.size < w1.heap.size := (by omega); have hzw_1 : w.heap.size + 1 < w1.heap.size := (by omega); have hzw_2 : w.heap.size + 2 < w1.heap.size := (by omega)
  obtain ⟨va, vc, hv1, -, -⟩ := ho1.rws.form
  have HO1 := Lib.hid ho1
  simp only [World.size_alloc] at HO1
  subst hv1
  clear hc hb1 ho1
  go_wp2
  have hK : Kpi (w.heap.size + 3) w1.heap.size w1 ((w1.setCell ⟨w.heap.size + 1 + 1, 0, none⟩ (.slice va b.length vc)).setCell ⟨w.heap.size + 1, 0, none⟩ (.slice va b.length vc)) :=
    ⟨by simp [World.setCell], fun k g1 _ _ => (Below.heap_setCell _ _ _ _ (by simp; omega)).trans (Below.heap_setCell _ _ _ _ (by simp; omega))⟩
  have hF := OwnRw.mono (OwnRw.keep HO1.out hK) (show w.heap.size ≤ w.heap.size + 1 + 1 + 1 by omega) hK.size
  refine bodyPost_ret (v := .agg #[.slice va b.length vc]) (run_resCell (b := w.heap.size + 1) (o := 0) (cs := [.slice va b.length vc]) rfl rfl Tryd.isAgg50 Tryd.sizeOf50 ?_) rfl ⟨_, rfl, hF, by (repeat' (first | with_reducible exact Below.refl _ _ | with_reducible assumption | with_reducible refine Below.setCell ?_ ?_ _ | with_reducible refine Below.alloc ?_ ?_ _ | with_reducible refine Below.drew ?_ | with_reducible refine belDrewN ?_ _ | with_reducible refine Below.trans ?_ (Below.mono (by assumption) ?_) | omega | (simp; omega) | (simp; done)))⟩
  intro j v hj
  have hr : (w1.cell? ⟨w.heap.size + 1, 0, none⟩).isSome = true := by simp [r0]
  match j, hj with
  | 0, hj => cases hj; exact World.cell?_setCell_same' _ _ _ (by rw [World.cell?_setCell_other _ _ _ _ (by simp)]; exact hr)
  | j + 1, hj => simp at hj
def RetFt (f : Ft) (w : World) (e : Ending) (w' : World) : Prop := ∃ v, e = .returned (.agg #[v, .bool f.acc]) ∧ OwnRw w' w.heap.size w'.heap.size v f.box ∧ Below w.heap.size w w'
set_option maxHeartbeats 1000000 in
theorem toFlat_any {lo : Nat} (f : Ft) (v : Value) (w : World) (hs : Rws lo w v f.box) (hn : f.box.length ≤ 1048576) (he : ∀ (k : Nat) xs, f.box[k]? = some xs → xs.length ≤ 1048576) :
    Calls Tryd.prog 64 #[.agg #[v, .bool f.acc]] w (RetFt f w) := by
  obtain ⟨b, c⟩ := f
  simp only at hs hn he ⊢
  obtain ⟨a, cap, rfl, hlc, hcm⟩ := hs.form
  go_enter Tryd.func64, Tryd.ntmps64
  go_wp2_with fail
  refine (toBox_any b _ _ (hs.below (by (repeat' (first | with_reducible exact Below.refl _ _ | with_reducible assumption | with_reducible refine Below.setCell ?_ ?_ _ | with_reducible refine Below.alloc ?_ ?_ _ | with_reducible refine Below.drew ?_ | with_reducible refine belDrewN ?_ _ | with_reducible refine Below.trans ?_ (Below.mono (by assumption) ?_) | omega | (simp; omega) | (simp; done))))) hn he).mono ?_
  rintro e w1 ⟨v1, rfl, ho1, hb1⟩
  have hz := hb1.size; simp at hz
  have kk := ownCells hb1 (w.heap.size) (by (try simp) <;> omega); have a0 := kk 0; have a1 := kk 1; clear kk; (try simp [go_sem] at a0); (try simp [go_sem] at a1)
  have kk := ownCells hb1 (w.heap.size + 1) (by (try simp) <;> omega); have r0 := kk 0; have r1 := kk 1; clear kk; (try simp [go_sem] at r0); (try simp [go_sem] at r1)
  have kk := ownCells hb1 (w.heap.size + 2) (by (try simp) <;> omega); have q0 := kk 0; have q1 := kk 1; clear kk; (try simp [go_sem] at q0); (try simp [go_sem] at q1)
  have hw1 : Below w.heap.size w w1 := by (repeat' (first | with_reducible exact Below.refl _ _ | with_reducible assumption | with_reducible refine Below.setCell ?_ ?_ _ | with_reducible refine Below.alloc ?_ ?_ _ | with_reducible refine Below.drew ?_ | with_reducible refine belDrewN ?_ _ | with_reducible refine Below.trans ?_ (Below.mono (by assumption) ?_) | omega | (simp; omega) | (simp; done)))
  obtain ⟨hc, hf⟩ := bcell hb1
  have hzw_0 : w.heap.size < w1.heap.size := (by omega); have hzw_1 : w.heap.size + 1 < w1.heap.size := (by omega); have hzw_2 : w.heap.size + 2 < w1.heap.size := (by omega)
  obtain ⟨va, vc, hv1, -, -⟩ := ho1.rws.form
  have HO1 := Lib.hid ho1
  simp only [World.size_alloc] at HO1
  subst hv1
  clear hc hb1 ho1
  go_wp2
  have hK : Kpi (w.heap.size + 3) w1.heap.size w1 ((((w1.setCell ⟨w.heap.size + 1 + 1, 0, none⟩ (.slice va b.length vc)).setCell ⟨w.heap.size + 1 + 1, 1, none⟩ (.bool c)).setCell ⟨w.heap.size + 1, 0, none⟩ (.slice va b.length vc)).setCell ⟨w.heap.size + 1, 1, none⟩ (.bool c)) :=
    ⟨by simp [World.setCell], fun k g1 _ _ => (Below.heap_setCell _ _ _ _ (by simp; omega)).trans ((Below.heap_setCell _ _ _ _ (by simp; omega)).trans ((Below.heap_setCell _ _ _ _ (by simp; omega)).trans (Below.heap_setCell _ _ _ _ (by simp; omega))))⟩
  have hF := OwnRw.mono (OwnRw.keep HO1.out hK) (show w.heap.size ≤ w.heap.size + 1 + 1 + 1 by omega) hK.size
  refine bodyPost_ret (v := .agg #[.slice va b.length vc, .bool c]) (run_resCell (b := w.heap.size + 1) (o := 0) (cs := [.slice va b.length vc, .bool c]) rfl rfl Tryd.isAgg52 Tryd.sizeOf52 ?_) rfl ⟨_, rfl, hF, by (repeat' (first | with_reducible exact Below.refl _ _ | with_reducible assumption | with_reducible refine Below.setCell ?_ ?_ _ | with_reducible refine Below.alloc ?_ ?_ _ | with_reducible refine Below.drew ?_ | with_reducible refine belDrewN ?_ _ | with_reducible refine Below.trans ?_ (Below.mono (by assumption) ?_) | omega | (simp; omega) | (simp; done)))⟩
  intro j v hj
  have hr : (w1.cell? ⟨w.heap.size + 1, 0, none⟩).isSome = true ∧ (w1.cell? ⟨w.heap.size + 1, 1, none⟩).isSome = true := by simp [r0, r1]
  obtain ⟨s0, s1⟩ := hr
  clear r0 r1 q0 q1 a0 a1 hf hK hF
  match j, hj with
  | 0, hj => cases hj; simp [World.cell?_setCell_same', World.cell?_setCell_other, s0]
  | 1, hj => cases hj; simp [World.cell?_setCell_same', World.cell?_setCell_other, s1]
  | j + 2, hj => simp at hj
end Go.Proofs.YtkcnbkkgpampaaaDoor
