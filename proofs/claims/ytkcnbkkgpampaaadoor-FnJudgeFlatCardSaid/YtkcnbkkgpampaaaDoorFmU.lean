/- Rules without calls: a copy for the program. -/
import Derived.Test.YtkcnbkkgpampaaaDoorFmT
namespace Go.Proofs.YtkcnbkkgpampaaaDoor
open Go.RowKit
theorem sumTo_at {α : Type} {f : α → Nat} {l : List α} {k : Nat} {x : α} (hx : l[k]? = some x) : f x ≤ sumTo f l l.length := by
  have h1 := sumTo_succ (f := f) hx
  have hk := (List.getElem?_eq_some_iff.1 hx).1
  have h2 := sumTo_le f l (k + 1) (l.length - (k + 1))
  rw [show k + 1 + (l.length - (k + 1)) = l.length by omega] at h2
  omega
theorem bxN_bound {b : Bx} {N : Nat} (h : bxN b ≤ N) : b.length ≤ N ∧ ∀ (k : Nat) xs, b[k]? = some xs → xs.length ≤ N := by
  unfold bxN at h
  exact ⟨by omega, fun k xs hx => by have := sumTo_at (f := List.length) hx; omega⟩
theorem ftN_bound {fs : List Ft} {N : Nat} (h : ftN fs ≤ N) : fs.length ≤ N ∧ ∀ (k : Nat) f, fs[k]? = some f → bxN f.box ≤ N := by
  unfold ftN at h
  exact ⟨by omega, fun k f hx => by have := sumTo_at (f := fun f : Ft => bxN f.box) hx; omega⟩
def RetFs (fs : List Ft) (w : World) (e : Ending) (w' : World) : Prop := ∃ v, e = .returned v ∧ OwnFs w' w.heap.size w'.heap.size v fs ∧ Below w.heap.size w w'
theorem OwnFs.form {w : World} {lo hi : Nat} {v : Value} {fs : List Ft} (h : OwnFs w lo hi v fs) : ∃ a cap, v = .slice a fs.length cap ∧ fs.length ≤ cap ∧ cap ≤ maxLen := Fts.form h.fts
set_option maxHeartbeats 2000000 in
theorem toFlatS_any {lo : Nat} (b : List Ft) (v : Value) (w : World) (hs : Fts lo w v b) (hN : ftN b ≤ 1048576) :
    Calls Tryd.prog 17 #[v] w (RetFs b w) := by
  obtain ⟨a, cap, rfl, hlc, hcm⟩ := hs.form
  unfold maxLen at hcm
  obtain ⟨i0, hi, hz0, hz1, hz2⟩ := info_parts infoFt
  obtain ⟨hn, he⟩ := ftN_bound hN
  have HEE := Lib.hid he
  clear he hN
  go_enter Tryd.func17, Tryd.ntmps17
  go_wp2_with (at_make; refine wpList_make_full _ rfl _ _ 25 rfl w.heap.size 52 i0 _ 2 Tryd.underlying25 hi hz0 hz1 _ _ _ _ b.length rfl rfl rfl rfl ?b1 ?b2 ?b3 ?_)
  case b1 => rw [hz2]; omega
  case b2 => simp only [maxLen]; omega
  case b3 => omega
  intro w1 hown1 hgrow1
  have hb1 : Below w.heap.size w w1 := (Below.refl _ _).grown hgrow1 (Nat.le_refl _) (fun k hk => by cases hk)
  have HO1 := Lib.hid (show OwnSl w.heap.size 52 2 RF.enc w1 (.slice (some ⟨w.heap.size, 0, none⟩) b.length b.length) (List.replicate b.length (⟨.slice none 0 0, false⟩ : RF)) by unfold OwnSl; rw [List.length_replicate, ← madeFlat (sz := 2) (enc := RF.enc) (fun _ => rfl) (by omega) (.agg #[.slice none 0 0, .bool false]) (⟨.slice none 0 0, false⟩ : RF) rfl]; exact hown1)
  clear hown1 hgrow1
  generalize hnn : b.length = n at *
  have HN := Lib.hid hnn
  clear hnn
  have hzw1 : w.heap.size < w1.heap.size := by
    rcases OwnSl.form HO1.out with ⟨h, _⟩ | ⟨g, cp, h, _, h2, _⟩
    · cases h
    · obtain ⟨h3, _, _⟩ := Value.slice.inj h; cases h3; exact h2
  go_wp2_with fail
  go_loopw [4] (fun i wr => ∃ (k : Nat) (vs : List RF), k ≤ n ∧ i = .int .i64 k ∧ vs.length = k ∧ OwnSl w.heap.size 52 2 RF.enc wr (.slice (some ⟨w.heap.size, 0, none⟩) n n) (vs ++ List.replicate (n - k) (⟨.slice none 0 0, false⟩ : RF)) ∧ OwnC (PFt wr) (w.heap.size + 1) wr.heap.size vs (b.take k) ∧ Below w.heap.size w wr ∧ w.heap.size < wr.heap.size) (fun i _ => n - (intOf i).toNat)
  case atStart => exact ⟨0, [], by omega, rfl, rfl, by simpa using HO1.out, hzw1, hb1, hzw1⟩
  case round =>
    obtain ⟨k, vs, hk, rfl, hvs, hown, hC, hbr, hzw⟩ := hrel
    have HO := Lib.hid hown
    have HC := Lib.hid hC
    have HVS := Lib.hid hvs
    clear hown hC HO1 hb1 hzw1 hvs
    have hzr := hbr.size
    by_cases hlt : k < n
    · obtain ⟨f, hx⟩ : ∃ f, b[k]? = some f := ⟨_, List.getElem?_eq_getElem (by rw [HN.out]; exact hlt)⟩
      obtain ⟨b', o, sv, rfl, hbl, c0, c1, hsv⟩ := (hs.below hbr).at hx
      have HX := Lib.hid hx
      have i1 : (k : Int) < (n : Int) := by omega
      have i2 : (0 : Int) ≤ (k : Int) := by omega
      obtain ⟨hxl, hxe⟩ := bxN_bound (HEE.out k f hx)
      clear hx
      go_wp2_with fail
      refine (toFlat_any f sv _ hsv hxl hxe).mono ?_
      rintro e w2 ⟨v2, rfl, ho2, hb2⟩
      have HO2 := Lib.hid (OwnSl.kept HO.out hb2)
      have hz2' := hb2.size
      have hP2 : PFt w2 wr.heap.size w2.heap.size ⟨v2, f.acc⟩ f := ⟨ho2, rfl⟩
      have hC2 : OwnC (PFt w2) (w.heap.size + 1) wr.heap.size vs (b.take k) := OwnC.imp PFt.le HC.out (fun l h x y _ _ g3 => ⟨g3.1.keep (Kpi.of hb2), g3.2⟩)
      have hlen : (vs ++ List.replicate (n - k) (⟨.slice none 0 0, false⟩ : RF)).length = n := by simp [HVS.out]; omega
      have HL := Lib.hid hlen; clear hlen
      obtain ⟨hst, hgr⟩ := OwnSl.store (sz := 2) (enc := RF.enc) (fun _ => rfl) HL.out.symm HO2.out (k := k) (by rw [HL.out]; exact hlt) ⟨v2, f.acc⟩
      rw [set_rep vs n k _ ⟨v2, f.acc⟩ HVS.out hlt] at hst
      have hfz : ∀ j, w2.frozen? ⟨w.heap.size, j, none⟩ = false := OwnSl.frz HO2.out
      have hcz := OwnSl.cell (sz := 2) (enc := RF.enc) (fun _ => rfl) HO2.out (k := k) (y := (⟨.slice none 0 0, false⟩ : RF)) (by rw [List.getElem?_append_right (by rw [HVS.out]; exact Nat.le_refl _), HVS.out, Nat.sub_self, List.getElem?_replicate, if_pos (by omega)])
      have d0 := hcz 0 _ rfl
      have d1 := hcz 1 _ rfl
      simp only [Nat.add_zero, wSet] at d0 hst hgr
      obtain ⟨W3, hW3⟩ : ∃ W3, (w2.setCell ⟨w.heap.size, k * 2, none⟩ v2).setCell ⟨w.heap.size, k * 2 + 1, none⟩ (.bool f.acc) = W3 := ⟨_, rfl⟩
      rw [hW3] at hst hgr
      have hK : Kpi (w.heap.size + 1) wr.heap.size w2 W3 := ⟨hgr.size, fun j g1 _ g3 => hgr.block j g3 (by intro e; cases e; omega)⟩
      have hK' : Kpi wr.heap.size w2.heap.size w2 W3 := ⟨hgr.size, fun j g1 _ g3 => hgr.block j g3 (by intro e; cases e; omega)⟩
      have hC3 : OwnC (PFt W3) (w.heap.size + 1) W3.heap.size (vs ++ [⟨v2, f.acc⟩]) (b.take (k + 1)) := by
        rw [List.take_add_one, HX.out]
        refine OwnC.snoc (OwnC.imp PFt.le hC2 (fun l h x y g1 g2 g3 => ⟨g3.1.keep (hK.sub g1 g2), g3.2⟩)) (fun l hl => ?_) (Nat.le_trans hz2' hgr.size)
        exact ⟨OwnRw.mono (OwnRw.keep hP2.1 hK') hl hgr.size, rfl⟩
      have hbw : Below w.heap.size w W3 := (hbr.trans (hb2.mono hzr)).grown hgr (by omega) (fun k hk => by cases hk; omega)
      obtain ⟨va, vc, hv2, -, -⟩ := ho2.rws.form
      have hsz3 : w.heap.size < W3.heap.size := Nat.lt_of_lt_of_le (by omega) hgr.size
      have HST := Lib.hid hst
      have HC3 := Lib.hid hC3
      have HBW := Lib.hid hbw
      subst hv2
      clear hcz hst hgr hK hK' hC3 hbw hP2 hC2 ho2 hb2 hsv c0 c1 hs
      go_wp2
      go_roundw
      case rel => exact ⟨k + 1, _, by omega, by go_num, by simp [HVS.out], HST.out, HC3.out, HBW.out, hsz3⟩
      case measure => simp [intOf]; omega
    · have hkn : k = n := by omega
      subst hkn
      have HF := Lib.hid (show OwnFs wr w.heap.size wr.heap.size (.slice (some ⟨w.heap.size, 0, none⟩) k k) b from by
        have h1 := HO.out
        rw [Nat.sub_self, List.replicate_zero, List.append_nil] at h1
        have h2 := HC.out
        rw [List.take_of_length_le (by rw [HN.out]; exact Nat.le_refl _)] at h2
        exact ⟨vs, w.heap.size + 1, ⟨h1, fun x hx => by cases hx; exact Nat.lt_succ_self _, by omega⟩, h2⟩)
      go_wp2
      go_ret
      exact ⟨_, rfl, HF.out, hbr⟩
end Go.Proofs.YtkcnbkkgpampaaaDoor
