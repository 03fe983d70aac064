/- Whether two rules can be exchanged: the program's walk. -/
import Derived.Test.YthflbpoogolebaaDoorFsC
namespace Go.Proofs.YthflbpoogolebaaDoor
open Go.RowKit
set_option maxHeartbeats 1000000 in
theorem tied_b {lo lo' : Nat} {f g : Ft} {v0 v1 v2 v3 u0 u1 u2 u3 : Value} {w : World} {r : Bool} (hs : All2 (Sps lo w) [v0, v1, v2, v3] f.box) (ht : All2 (Sps lo' w) [u0, u1, u2, u3] g.box) (ha : bvalid f.box = true) (hb : bvalid g.box = true) (h : tiedB f g = r) :
    Calls Tryd.prog 45 #[.agg #[v0, v1, v2, v3, .bool f.acc], .agg #[u0, u1, u2, u3, .bool g.acc]] w fun e w' => e = .returned (.bool r) ∧ Below w.heap.size w w' := by
  have HS := Lib.hid hs
  have HT := Lib.hid ht
  obtain ⟨p, hp⟩ : ∃ p, f.acc = p := ⟨_, rfl⟩
  obtain ⟨q, hq⟩ : ∃ q, g.acc = q := ⟨_, rfl⟩
  unfold tiedB at h
  rw [hp, hq] at h ⊢
  clear hs ht hp hq
  by_cases e : p = q
  · subst e
    have HR := Lib.hid (show false = r by rw [← h]; simp)
    clear h
    go_enter Tryd.func45, Tryd.ntmps45
    go_wp2
    go_ret
    exact ⟨ret_bool HR.out, by (repeat' (first | with_reducible exact Below.refl _ _ | with_reducible assumption | with_reducible refine Below.setCell ?_ ?_ _ | with_reducible refine Below.alloc ?_ ?_ _ | with_reducible refine Below.drew ?_ | with_reducible refine belDrewN ?_ _ | with_reducible refine Below.trans ?_ (Below.mono (by assumption) ?_) | omega | (simp; omega) | (simp; done)))⟩
  · have HH := Lib.hid (show (!bempty (bmeet f.box g.box)) = r by rw [← h]; simp [e])
    have hpq : (p == q) = false := by cases p <;> cases q <;> simp_all
    clear h
    go_enter Tryd.func45, Tryd.ntmps45
    go_wp2_with fail
    refine (touches_b (HS.out.mono (fun _ _ h => h.below (by (repeat' (first | with_reducible exact Below.refl _ _ | with_reducible assumption | with_reducible refine Below.setCell ?_ ?_ _ | with_reducible refine Below.alloc ?_ ?_ _ | with_reducible refine Below.drew ?_ | with_reducible refine belDrewN ?_ _ | with_reducible refine Below.trans ?_ (Below.mono (by assumption) ?_) | omega | (simp; omega) | (simp; done)))))) (HT.out.mono (fun _ _ h => h.below (by (repeat' (first | with_reducible exact Below.refl _ _ | with_reducible assumption | with_reducible refine Below.setCell ?_ ?_ _ | with_reducible refine Below.alloc ?_ ?_ _ | with_reducible refine Below.drew ?_ | with_reducible refine belDrewN ?_ _ | with_reducible refine Below.trans ?_ (Below.mono (by assumption) ?_) | omega | (simp; omega) | (simp; done)))))) ha hb HH.out).mono ?_
    rintro e w1 ⟨rfl, hb1⟩
    have hw1 : Below w.heap.size w w1 := by (repeat' (first | with_reducible exact Below.refl _ _ | with_reducible assumption | with_reducible refine Below.setCell ?_ ?_ _ | with_reducible refine Below.alloc ?_ ?_ _ | with_reducible refine Below.drew ?_ | with_reducible refine belDrewN ?_ _ | with_reducible refine Below.trans ?_ (Below.mono (by assumption) ?_) | omega | (simp; omega) | (simp; done)))
    clear hb1
    go_wp2
    go_ret
    exact ⟨rfl, hw1⟩
/-- Whether there are rules n and n + 1, not tied. -/
def swp (fs : List Ft) (n : Int) : Bool := inB n 0 ((fs.length : Int) - 2) && !tiedAt fs n.toNat (n.toNat + 1)
set_option maxHeartbeats 2000000 in
theorem swappable_b {lo : Nat} {fs : List Ft} {v : Value} {n : Int} {w : World} {r : Bool} (hs : Ifs lo w v fs) (hv : ∀ (k : Nat) f, fs[k]? = some f → bvalid f.box = true) (h : swp fs n = r) :
    Calls Tryd.prog 24 #[v, .int .i64 n] w fun e w' => e = .returned (.bool r) ∧ Below w.heap.size w w' := by
  obtain ⟨a, cap, rfl, hlc, hcm⟩ := hs.form
  unfold maxLen at hcm
  unfold swp at h
  generalize hm : fs.length = m at *
  have HM := Lib.hid hm
  clear hm
  by_cases hn : 0 ≤ n ∧ n < (m : Int) - 1
  · obtain ⟨k, rfl⟩ : ∃ k : Nat, n = k := ⟨n.toNat, by omega⟩
    obtain ⟨h0, h1⟩ := hn
    obtain ⟨f, hf⟩ : ∃ f, fs[k]? = some f := ⟨_, List.getElem?_eq_getElem (by rw [HM.out]; omega)⟩
    obtain ⟨g, hg⟩ : ∃ g, fs[k + 1]? = some g := ⟨_, List.getElem?_eq_getElem (by rw [HM.out]; omega)⟩
    obtain ⟨t, ht⟩ : ∃ t, tiedB f g = t := ⟨_, rfl⟩
    have HR := Lib.hid (show (!t) = r by
      rw [← h, Int.toNat_natCast, tiedAt_of hf hg, ht, show inB (k : Int) 0 ((m : Int) - 2) = true from inB_iff.2 ⟨by omega, by omega⟩]
      rfl)
    have HT := Lib.hid ht
    have HVF := Lib.hid (hv k f hf)
    have HVG := Lib.hid (hv (k + 1) g hg)
    obtain ⟨b, o, v0, v1, v2, v3, rfl, hbl, c0, c1, c2, c3, c4, hss⟩ := hs.at hf
    obtain ⟨b', o', u0, u1, u2, u3, he, hbl', d0, d1, d2, d3, d4, htt⟩ := hs.at hg
    obtain ⟨rfl, rfl, -⟩ := Addr.mk.inj (Option.some.inj he)
    have HS := Lib.hid hss
    have HU := Lib.hid htt
    clear hs hv h hf hg ht he hss htt
    go_enter Tryd.func24, Tryd.ntmps24
    go_wp2_with fail
    refine wp_region_over (by kernel_rfl) (by kernel_rfl) (fun ov => ?_); have ov0 := fun x => ov x (b) (by (try simp) <;> omega); clear ov; (iterate 9 (iterate 8 (try go_big_quiet_step (first | (go_at_call 45; with_reducible exact callsOver (tied_b (HS.out.mono (fun _ _ h => h.below (over_below _ _))) (HU.out.mono (fun _ _ h => h.below (over_below _ _))) HVF.out HVG.out HT.out)))))); refine wpQuiet_nil ?_; intro w9 hw9; have hb_w9 := below_over hw9; clear hw9 ov0
    go_wp2
    go_ret
    exact ⟨ret_bool HR.out, hb_w9⟩
  · have HR := Lib.hid (show false = r by
      rw [← h, show inB n 0 ((m : Int) - 2) = false from by rw [← Bool.not_eq_true, inB_iff]; omega]
      rfl)
    clear h hv hs
    by_cases h0 : 0 ≤ n
    · have h1 : ¬ n < (m : Int) - 1 := by omega
      have h1d : decide (n < (m : Int) - 1) = false := decide_eq_false h1
      clear hn
      go_enter Tryd.func24, Tryd.ntmps24
      go_wp2_with fail
      refine wp_region_over (by kernel_rfl) (by kernel_rfl) (fun ov => ?_); clear ov; (iterate 9 (iterate 8 (try go_big_quiet_step (first | fail)))); refine wpQuiet_nil ?_; intro w9 hw9; have hb_w9 := below_over hw9; clear hw9 
      go_wp2
      go_ret
      exact ⟨ret_bool HR.out, hb_w9⟩
    · have h0d : decide (0 ≤ n) = false := decide_eq_false h0
      clear hn
      go_enter Tryd.func24, Tryd.ntmps24
      go_wp2_with fail
      refine wp_region_over (by kernel_rfl) (by kernel_rfl) (fun ov => ?_); clear ov; (iterate 9 (iterate 8 (try go_big_quiet_step (first | fail)))); refine wpQuiet_nil ?_; intro w9 hw9; have hb_w9 := below_over hw9; clear hw9 
      go_wp2
      go_ret
      exact ⟨ret_bool HR.out, hb_w9⟩
theorem cansw_swp (fs : List Ft) (n : Int) : cansw fs n = (fvalid fs && swp fs n) := by
  unfold cansw swp
  rw [Bool.and_assoc]
set_option maxHeartbeats 1000000 in
theorem implCS_any {lo : Nat} (fs : List Ft) (v : Value) (n : Int) (w : World) (hs : Fts lo w v fs) (ht : Tab w) :
    Calls Tryd.prog 17 #[v, .int .i64 n] w fun e w' => e = .returned (.bool (cansw fs n)) ∧ Below w.heap.size w w' := by
  rw [cansw_swp]
  cases hv : fvalid fs
  · go_enter Tryd.func17, Tryd.ntmps17
    go_wp2_with fail
    refine (implFV_b hs ht hv).mono ?_
    rintro e w1 ⟨rfl, hb1⟩
    go_wp2
    go_ret
    exact ⟨rfl, hb1⟩
  · have HV := Lib.hid hv
    obtain ⟨r, hr⟩ : ∃ r, swp fs n = r := ⟨_, rfl⟩
    rw [hr]
    have HR := Lib.hid hr
    clear hr
    go_enter Tryd.func17, Tryd.ntmps17
    go_wp2_with fail
    refine (implFV_b hs ht hv).mono ?_
    rintro e w1 ⟨rfl, hb1⟩
    have hs1 := hs.below hb1
    clear hv
    go_wp2_with fail
    refine (flatsOf_any fs v _ hs1 (fvalid_four HV.out) (fvalid_len HV.out)).mono ?_
    rintro e w2 ⟨v2, rfl, ho2, hb2⟩
    have hw2 := hb1.trans (hb2.mono hb1.size)
    clear hb2
    go_wp2_with fail
    refine (swappable_b ho2 (fun k f hx => fvalid_at HV.out hx) HR.out).mono ?_
    rintro e w3 ⟨rfl, hb3⟩
    have hw3 := hw2.trans (hb3.mono hw2.size)
    clear hb3
    go_wp2
    go_ret
    exact ⟨ret_bool (by simp), hw3⟩
theorem implCS_b {lo : Nat} {fs : List Ft} {v : Value} {n : Int} {w : World} {r : Bool} (hs : Fts lo w v fs) (ht : Tab w) (h : cansw fs n = r) :
    Calls Tryd.prog 17 #[v, .int .i64 n] w fun e w' => e = .returned (.bool r) ∧ Below w.heap.size w w' := by
  subst h
  exact implCS_any fs v n w hs ht
end Go.Proofs.YthflbpoogolebaaDoor
