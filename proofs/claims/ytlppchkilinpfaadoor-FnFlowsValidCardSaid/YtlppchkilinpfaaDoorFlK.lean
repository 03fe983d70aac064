/- Lists of flows: the reference's KnownFlow. -/
import Derived.Test.YtlppchkilinpfaaDoorFl
namespace Go.Proofs.YtlppchkilinpfaaDoor
open Go.RowKit
def kmatch (p : Pk) (now : Int) (f : Fl) : Bool := sameP f.who p && decide (now ≤ f.til)
def kfind (xs : List Fl) (p : Pk) (now : Int) : Int := match xs.findIdx? (kmatch p now) with
  | some k => k
  | none => -1
def vall (xs : List Fl) (p : Pk) (now : Int) : Bool := fvalid xs && p.ok && inB now 0 1000000
def known (xs : List Fl) (p : Pk) (now : Int) : Int := if vall xs p now then kfind xs p now else -1
theorem known_bad {xs : List Fl} {p : Pk} {now : Int} (h : vall xs p now = false) : known xs p now = -1 := by simp [known, h]
theorem known_none {xs : List Fl} {p : Pk} {now : Int} (h : ∀ i x, i < xs.length → xs[i]? = some x → kmatch p now x = false) : known xs p now = -1 := by
  unfold known kfind
  rw [List.findIdx?_eq_none_iff.2 (fun x hx => by
    obtain ⟨i, hi, rfl⟩ := List.getElem_of_mem hx
    exact h i _ hi (List.getElem?_eq_getElem hi))]
  simp
theorem known_some {xs : List Fl} {p : Pk} {now : Int} (hv : vall xs p now = true) {k : Nat} {x : Fl} (hx : xs[k]? = some x) (hm : kmatch p now x = true) (h : ∀ i y, i < k → xs[i]? = some y → kmatch p now y = false) : known xs p now = k := by
  unfold known kfind
  obtain ⟨hk, rfl⟩ := List.getElem?_eq_some_iff.1 hx
  rw [List.findIdx?_eq_some_iff_getElem.2 ⟨hk, hm, fun j hj => by rw [h j _ hj (List.getElem?_eq_getElem (by omega))]; simp⟩]
  simp [hv]
theorem kmatch_eq {p : Pk} {now : Int} {x : Fl} {b c : Bool} (h : sameP x.who p = b) (hc : decide (now ≤ x.til) = c) : kmatch p now x = (b && c) := by simp [kmatch, h, hc]

set_option maxHeartbeats 1000000 in
theorem specKF_any (xs : List Fl) (v : Value) (p1 p2 p3 p4 now : Int) (w : World) (hs : Fls w v xs) :
    Calls Tryd.prog 23 #[v, .agg #[.int .i64 p1, .int .i64 p2, .int .i64 p3, .int .i64 p4], .int .i64 now] w fun e w' => e = .returned (.int .i64 (known xs ⟨p1, p2, p3, p4⟩ now)) ∧ Below w.heap.size w w' := by
  obtain ⟨a, cap, rfl, hlc, hcm, -⟩ := id hs
  unfold maxLen at hcm
  go_enter Tryd.func23, Tryd.ntmps23
  go_wp2_with fail
  go_loopw [7] (fun i wr => ∃ k : Nat, k ≤ xs.length ∧ i = .int .i64 k ∧ (∀ i x, i < k → xs[i]? = some x → kmatch ⟨p1, p2, p3, p4⟩ now x = false) ∧ Below (w.heap.size + 1) (w.alloc (.cells #[.int .i64 p1, .int .i64 p2, .int .i64 p3, .int .i64 p4] 24)) wr) (fun i _ => xs.length - (intOf i).toNat)
  case atStart => exact ⟨0, by omega, rfl, fun i x hi => by omega, by (repeat' (first | with_reducible exact Below.refl _ _ | with_reducible assumption | with_reducible refine Below.setCell ?_ ?_ _ | with_reducible refine Below.alloc ?_ ?_ _ | with_reducible refine Below.drew ?_ | with_reducible refine belDrewN ?_ _ | with_reducible refine Below.trans ?_ (Below.mono (by assumption) ?_) | omega | (simp; omega) | (simp; done)))⟩
  case round =>
    obtain ⟨k, hk, rfl, hg, hbr⟩ := hrel
    have HG := Lib.hid hg; clear hg
    have hb3 : Below w.heap.size w wr := ((Below.refl _ _).alloc (Nat.le_refl _) _).trans (hbr.mono (by omega))
    have hs2 := Lib.hid (hs.below hb3)
    have hzr := hbr.size; simp at hzr
    have kb := belCells hbr w.heap.size (by omega)
    by_cases hlt : k < xs.length
    · obtain ⟨b, o, f1, f2, f3, f4, t, rfl, hbl, hx, c0, c1, c2, c3, c4⟩ := hs2.out.at hlt
      have HX := Lib.hid hx; clear hx
      cases hfv : fvalid xs
      · go_wp2_with (first | (go_at_call 19; refine (specFV_any _ _ _ hs2.out).mono ?_; rw [hfv]; rintro e w1 ⟨rfl, hb⟩; obtain ⟨hc, hf⟩ := bcell hb; have hz := hb.size; (try simp at hz)))
        go_ret
        exact ⟨ret_int (by rw [known_bad (by simp [vall, hfv])]), by (repeat' (first | with_reducible exact Below.refl _ _ | with_reducible assumption | with_reducible refine Below.setCell ?_ ?_ _ | with_reducible refine Below.alloc ?_ ?_ _ | with_reducible refine Below.drew ?_ | with_reducible refine belDrewN ?_ _ | with_reducible refine Below.trans ?_ (Below.mono (by assumption) ?_) | omega | (simp; omega) | (simp; done)))⟩
      · cases hp : Pk.ok ⟨p1, p2, p3, p4⟩
        · go_wp2_with (first | (go_at_call 19; refine (specFV_any _ _ _ hs2.out).mono ?_; rw [hfv]; rintro e w1 ⟨rfl, hb⟩; obtain ⟨hc, hf⟩ := bcell hb; have hz := hb.size; (try simp at hz); have kb1 := ownCells hb w.heap.size (by omega)) | (go_at_call 16; refine (specPV_any _ _ _ _ _).mono ?_; rw [hp]; rintro e w1 ⟨rfl, hb⟩; obtain ⟨hc, hf⟩ := bcell hb; have hz := hb.size; (try simp at hz)))
          go_ret
          exact ⟨ret_int (by rw [known_bad (by simp [vall, hp])]), by (repeat' (first | with_reducible exact Below.refl _ _ | with_reducible assumption | with_reducible refine Below.setCell ?_ ?_ _ | with_reducible refine Below.alloc ?_ ?_ _ | with_reducible refine Below.drew ?_ | with_reducible refine belDrewN ?_ _ | with_reducible refine Below.trans ?_ (Below.mono (by assumption) ?_) | omega | (simp; omega) | (simp; done)))⟩
        · cases hu : inB now 0 1000000
          · go_wp2_with (first | (go_at_call 19; refine (specFV_any _ _ _ hs2.out).mono ?_; rw [hfv]; rintro e w1 ⟨rfl, hb⟩; obtain ⟨hc, hf⟩ := bcell hb; have hz := hb.size; (try simp at hz); have kb1 := ownCells hb w.heap.size (by omega)) | (go_at_call 16; refine (specPV_any _ _ _ _ _).mono ?_; rw [hp]; rintro e w1 ⟨rfl, hb⟩; obtain ⟨hc, hf⟩ := bcell hb; have hz := hb.size; (try simp at hz)) | (go_at_call 37; refine (l1In_any _ _ _ _).mono ?_; rw [hu]; rintro e w9 ⟨rfl, rfl⟩))
            go_ret
            exact ⟨ret_int (by rw [known_bad (by simp [vall, hu])]), by (repeat' (first | with_reducible exact Below.refl _ _ | with_reducible assumption | with_reducible refine Below.setCell ?_ ?_ _ | with_reducible refine Below.alloc ?_ ?_ _ | with_reducible refine Below.drew ?_ | with_reducible refine belDrewN ?_ _ | with_reducible refine Below.trans ?_ (Below.mono (by assumption) ?_) | omega | (simp; omega) | (simp; done)))⟩
          · have HV := Lib.hid (show vall xs ⟨p1, p2, p3, p4⟩ now = true by simp [vall, hfv, hp, hu])
            
            go_wp2_with fail; refine (specFV_any _ _ _ hs2.out).mono ?_; rw [hfv]; rintro e w1 ⟨rfl, hb1⟩; obtain ⟨hc1, hf1⟩ := bcell hb1; have hz1 := hb1.size; (try simp at hz1); (try have hz1_wr_0 : wr.heap.size < w1.heap.size := (by omega)); (try have hz1_wr_1 : wr.heap.size + 1 < w1.heap.size := (by omega)); (try have hz1_wr_2 : wr.heap.size + 2 < w1.heap.size := (by omega)); have kb1 := ownCells hb1 w.heap.size (by omega)
            go_wp2_with fail; refine (specPV_any _ _ _ _ _).mono ?_; rw [hp]; rintro e w2 ⟨rfl, hb2⟩; obtain ⟨hc2, hf2⟩ := bcell hb2; have hz2 := hb2.size; (try simp at hz2); (try have hz2_wr_0 : wr.heap.size < w2.heap.size := (by omega)); (try have hz2_wr_1 : wr.heap.size + 1 < w2.heap.size := (by omega)); (try have hz2_wr_2 : wr.heap.size + 2 < w2.heap.size := (by omega)); (try have hz2_w1_0 : w1.heap.size < w2.heap.size := (by omega)); (try have hz2_w1_1 : w1.heap.size + 1 < w2.heap.size := (by omega)); (try have hz2_w1_2 : w1.heap.size + 2 < w2.heap.size := (by omega)); have kb2 := ownCells hb2 w.heap.size (by omega)
            go_wp2_with (go_at_call 37; refine (l1In_any _ _ _ _).mono ?_; rw [hu]; rintro e w9 ⟨rfl, rfl⟩)
            have hq2 : Below w.heap.size w w2 := by (repeat' (first | with_reducible exact Below.refl _ _ | with_reducible assumption | with_reducible refine Below.setCell ?_ ?_ _ | with_reducible refine Below.alloc ?_ ?_ _ | with_reducible refine Below.drew ?_ | with_reducible refine belDrewN ?_ _ | with_reducible refine Below.trans ?_ (Below.mono (by assumption) ?_) | omega | (simp; omega) | (simp; done)))
            have hz5 := hq2.size
            have hs5 := hs.below hq2
            obtain ⟨hbl2, d0, d1, d2, d3, d4⟩ := hs5.get HX.out
            have e0 : ∀ o, w2.cell? ⟨w.heap.size, o, none⟩ = (w.alloc (.cells #[.int .i64 p1, .int .i64 p2, .int .i64 p3, .int .i64 p4] 24)).cell? ⟨w.heap.size, o, none⟩ := fun o => by rw [kb2, kb1, kb]
            have i1 : (k : Int) < (xs.length : Int) := by omega
            have i2 : (0 : Int) ≤ (k : Int) := by omega
            clear c0 c1 c2 c3 c4 kb kb1 kb2 hc1 hc2 hf1 hf2 hs5
            simp at e0
            have e1 := e0 0; have e2 := e0 1; have e3 := e0 2; have e4 := e0 3; clear e0
            simp at e1 e2 e3 e4
            have hq0 : Below (w.heap.size + 1) (w.alloc (.cells #[.int .i64 p1, .int .i64 p2, .int .i64 p3, .int .i64 p4] 24)) w2 := (hbr.trans (hb1.mono (by omega))).trans (hb2.mono (by omega))
            cases hsp : sameP ⟨f1, f2, f3, f4⟩ ⟨p1, p2, p3, p4⟩
            · have HM := Lib.hid (show kmatch ⟨p1, p2, p3, p4⟩ now ⟨⟨f1, f2, f3, f4⟩, t⟩ = false by simp [kmatch, hsp])
              refine wp_region_over (by kernel_rfl) (by kernel_rfl) (fun ov => ?_); have ov0 := fun x => ov x (b) (by (try simp) <;> omega); have ov1 := fun x => ov x (w.heap.size) (by (try simp) <;> omega); clear ov; (repeat (go_big_quiet_step (first | (go_at_call 39; exact callsOver (l19Same_b hsp _))))); refine wpQuiet_nil ?_; intro w9 hw9; have hb_w9 := below_over hw9; clear hw9 ov0 ov1
              go_wp2
              go_roundw
              case rel =>
                refine ⟨k + 1, by omega, by go_num, fun i x hi hx => ?_, ?_⟩
                · rcases (by omega : i < k ∨ i = k) with hm | rfl
                  · exact HG.out i x hm hx
                  · rw [HX.out] at hx; cases hx; exact HM.out
                · exact hq0.trans (hb_w9.mono (by omega))
              case measure => simp [intOf]; omega
            · by_cases hn : now ≤ t
              · have HM := Lib.hid (show kmatch ⟨p1, p2, p3, p4⟩ now ⟨⟨f1, f2, f3, f4⟩, t⟩ = true by simp [kmatch, hsp, hn])
                refine wp_region_over (by kernel_rfl) (by kernel_rfl) (fun ov => ?_); have ov0 := fun x => ov x (b) (by (try simp) <;> omega); have ov1 := fun x => ov x (w.heap.size) (by (try simp) <;> omega); clear ov; (repeat (go_big_quiet_step (first | (go_at_call 39; exact callsOver (l19Same_b hsp _))))); refine wpQuiet_nil ?_; intro w9 hw9; have hb_w9 := below_over hw9; clear hw9 ov0 ov1
                go_wp2
                go_ret
                exact ⟨ret_int (known_some HV.out HX.out HM.out HG.out).symm, by (repeat' (first | with_reducible exact Below.refl _ _ | with_reducible assumption | with_reducible refine Below.setCell ?_ ?_ _ | with_reducible refine Below.alloc ?_ ?_ _ | with_reducible refine Below.drew ?_ | with_reducible refine belDrewN ?_ _ | with_reducible refine Below.trans ?_ (Below.mono (by assumption) ?_) | omega | (simp; omega) | (simp; done)))⟩
              · have HM := Lib.hid (show kmatch ⟨p1, p2, p3, p4⟩ now ⟨⟨f1, f2, f3, f4⟩, t⟩ = false by simp [kmatch, hsp]; omega)
                refine wp_region_over (by kernel_rfl) (by kernel_rfl) (fun ov => ?_); have ov0 := fun x => ov x (b) (by (try simp) <;> omega); have ov1 := fun x => ov x (w.heap.size) (by (try simp) <;> omega); clear ov; (repeat (go_big_quiet_step (first | (go_at_call 39; exact callsOver (l19Same_b hsp _))))); refine wpQuiet_nil ?_; intro w9 hw9; have hb_w9 := below_over hw9; clear hw9 ov0 ov1
                go_wp2
                go_roundw
                case rel =>
                  refine ⟨k + 1, by omega, by go_num, fun i x hi hx => ?_, ?_⟩
                  · rcases (by omega : i < k ∨ i = k) with hm | rfl
                    · exact HG.out i x hm hx
                    · rw [HX.out] at hx; cases hx; exact HM.out
                  · exact hq0.trans (hb_w9.mono (by omega))
                case measure => simp [intOf]; omega
    · go_wp2
      go_ret
      have HE := Lib.hid (show k = xs.length by omega)
      exact ⟨ret_int (known_none (HE.out ▸ HG.out)).symm, by (repeat' (first | with_reducible exact Below.refl _ _ | with_reducible assumption | with_reducible refine Below.setCell ?_ ?_ _ | with_reducible refine Below.alloc ?_ ?_ _ | with_reducible refine Below.drew ?_ | with_reducible refine belDrewN ?_ _ | with_reducible refine Below.trans ?_ (Below.mono (by assumption) ?_) | omega | (simp; omega) | (simp; done)))⟩
end Go.Proofs.YtlppchkilinpfaaDoor
