/- Whether two rules can be exchanged: the reference's walk. -/
import Derived.Test.YtojafgooobpoiaaDoorFsM
import Derived.Test.YtojafgooobpoiaaDoorRgX
import Derived.Test.YtojafgooobpoiaaDoorFmZ
namespace Go.Proofs.YtojafgooobpoiaaDoor
open Go.RowKit
theorem bvalid_len2 {b : Bx} (h : bvalid b = true) (k : Nat) (xs : List Sp) (hx : b[k]? = some xs) : xs.length ≤ 2000 := by
  obtain ⟨h4, hb⟩ := bvalid_four h
  have hk := (List.getElem?_eq_some_iff.1 hx).1
  have := hb k xs (by omega) hx
  unfold svalid at this
  simp only [Bool.and_eq_true, decide_eq_true_eq] at this
  omega
theorem l10Meet_e {lo lo' : Nat} {a b c : Bx} {u v : Value} {w : World} (hs : Rws lo w u a) (ht : Rws lo' w v b) (ha : bvalid a = true) (hb : bvalid b = true) (h : bmeet a b = c) :
    Calls Tryd.prog 99 #[.agg #[u], .agg #[v]] w fun e w' => ∃ v', e = .returned (.agg #[v']) ∧ Rws 0 w' v' c ∧ Below w.heap.size w w' := by
  subst h
  refine (l10Meet_any a b u v w hs ht (bvalid_four ha).1 (bvalid_four hb).1 (bvalid_len2 ha) (bvalid_len2 hb)).mono ?_
  rintro e w' ⟨v', rfl, h1, h2⟩
  exact ⟨v', rfl, (GRw.rws h1).mono (Nat.zero_le _), h2⟩
set_option maxHeartbeats 2000000 in
set_option maxRecDepth 100000 in
theorem specCS_any {lo : Nat} (fs : List Ft) (v : Value) (n : Int) (w : World) (hs : Fts lo w v fs) :
    Calls Tryd.prog 69 #[v, .int .i64 n] w fun e w' => e = .returned (.bool (cansw fs n)) ∧ Below w.heap.size w w' := by
  obtain ⟨a, cap, rfl, hlc, hcm⟩ := hs.form
  unfold maxLen at hcm
  generalize hm : fs.length = m at *
  have HM := Lib.hid hm
  clear hm
  cases hv : fvalid fs
  · have HE := Lib.hid (show cansw fs n = false by simp [cansw, hv])
    rw [HE.out]
    go_enter Tryd.func69, Tryd.ntmps69
    go_wp2_with fail
    refine (specFV_b hs hv).mono ?_
    rintro e w1 ⟨rfl, hb1⟩
    go_wp2
    go_ret
    exact ⟨rfl, hb1⟩
  · have HV := Lib.hid hv
    cases hin : inB n 0 ((m : Int) - 2)
    · have HE := Lib.hid (show cansw fs n = false by simp [cansw, HM.out, hin])
      rw [HE.out]
      go_enter Tryd.func69, Tryd.ntmps69
      go_wp2_with fail
      refine (specFV_b hs hv).mono ?_
      rintro e w1 ⟨rfl, hb1⟩
      go_wp2_with fail
      refine (l1In_b hin _).mono ?_
      rintro e w2 ⟨rfl, rfl⟩
      go_wp2
      go_ret
      exact ⟨rfl, hb1⟩
    · obtain ⟨h0, h1⟩ := inB_iff.1 hin
      obtain ⟨k, rfl⟩ : ∃ k : Nat, n = k := ⟨n.toNat, by omega⟩
      obtain ⟨f, hf⟩ : ∃ f, fs[k]? = some f := ⟨_, List.getElem?_eq_getElem (by rw [HM.out]; omega)⟩
      obtain ⟨g, hg⟩ : ∃ g, fs[k + 1]? = some g := ⟨_, List.getElem?_eq_getElem (by rw [HM.out]; omega)⟩
      have HE := Lib.hid (show cansw fs (k : Int) = !tiedB f g by simp [cansw, HM.out, hin, HV.out, tiedAt_of hf hg])
      have HF := Lib.hid hf
      have HG := Lib.hid hg
      have i1 : (k : Int) < (m : Int) := by omega
      have i2 : (0 : Int) ≤ (k : Int) := by omega
      have i3 : (k : Int) + 1 < (m : Int) := by omega
      rw [HE.out]
      clear hf hg
      go_enter Tryd.func69, Tryd.ntmps69
      go_wp2_with fail
      refine (specFV_b hs hv).mono ?_
      rintro e w1 ⟨rfl, hb1⟩
      have hs1 := hs.below hb1
      go_wp2_with fail
      refine (l1In_b hin _).mono ?_
      rintro e w2 ⟨rfl, rfl⟩
      obtain ⟨b, o, sv, rfl, hbl, c0, c1, hsv⟩ := hs1.at HF.out
      obtain ⟨b', o', tv, he, hbl', d0, d1, htv⟩ := hs1.at HG.out
      obtain ⟨rfl, rfl, -⟩ := Addr.mk.inj (Option.some.inj he)
      obtain ⟨p, hp⟩ : ∃ p, f.acc = p := ⟨_, rfl⟩
      obtain ⟨q, hq⟩ : ∃ q, g.acc = q := ⟨_, rfl⟩
      rw [hp] at c1
      rw [hq] at d1
      have HPQ := Lib.hid (And.intro hp hq)
      have HVF := Lib.hid (fvalid_at HV.out HF.out)
      have HVG := Lib.hid (fvalid_at HV.out HG.out)
      obtain ⟨c, hc⟩ : ∃ c, bmeet f.box g.box = c := ⟨_, rfl⟩
      have HC := Lib.hid hc
      obtain ⟨r, hr⟩ : ∃ r, bempty c = r := ⟨_, rfl⟩
      have HR := Lib.hid hr
      clear hp hq hc hr
      by_cases e : p = q
      · have HT := Lib.hid (show tiedB f g = false by unfold tiedB; rw [HPQ.out.1, HPQ.out.2, e]; simp)
        subst e
        go_wp2_with fail
        refine wp_region_over (by kernel_rfl) (by kernel_rfl) (fun ov => ?_); have ov0 := fun x => ov x (b) (by (try simp) <;> omega); clear ov; (iterate 9 (iterate 8 (try go_big_quiet_step (first | fail)))); refine wpQuiet_nil ?_; intro w9 hw9; have hb_w9 := below_over hw9; clear hw9 ov0
        have hw9 := hb1.trans (hb_w9.mono hb1.size)
        go_wp2
        go_ret
        exact ⟨ret_bool (by rw [HT.out]; rfl), hw9⟩
      · have HT := Lib.hid (show tiedB f g = !r by unfold tiedB; rw [HPQ.out.1, HPQ.out.2, HC.out, HR.out]; simp [e])
        have hpq : (p == q) = false := by cases p <;> cases q <;> simp_all
        go_wp2_with fail
        (refine wp_region_belG (W := w1) [BIs (.slice (some ⟨b, o, none⟩) m cap), BIs (.int .i64 (k : Int)), BIs (.pointer (some ⟨b, o + k * 2, none⟩)), BIs (.pointer (some ⟨b, o + k * 2 + 1, none⟩)), BIs (.bool p), BIs (.slice (some ⟨b, o, none⟩) m cap), BIs (.int .i64 (k : Int)), BIs (.int .i64 ((k : Int) + 1)), BIs (.pointer (some ⟨b, o + (k + 1) * 2, none⟩)), BIs (.pointer (some ⟨b, o + (k + 1) * 2 + 1, none⟩)), BIs (.bool q), BIs (.bool false), BIs (.bool false), BIs (.slice (some ⟨b, o, none⟩) m cap), BIs (.int .i64 (k : Int)), BIs (.pointer (some ⟨b, o + k * 2, none⟩)), BIs (.pointer (some ⟨b, o + k * 2, none⟩)), BIs (.agg #[sv]), BIs (.slice (some ⟨b, o, none⟩) m cap), BIs (.int .i64 (k : Int)), BIs (.int .i64 ((k : Int) + 1)), BIs (.pointer (some ⟨b, o + (k + 1) * 2, none⟩)), BIs (.pointer (some ⟨b, o + (k + 1) * 2, none⟩)), BIs (.agg #[tv]), (fun w u => ∃ v', u = .agg #[v'] ∧ Rws 0 w v' c), (BIs (.bool r)), BIs (.bool r), BIs (.bool r)] (by kernel_rfl) (fun u => by simp only [frU, Act.put, List.setIfInBounds_toArray, List.set_cons_succ, List.set_cons_zero, Nat.zero_add, Nat.reduceAdd]; exact rfl) (by kernel_rfl) ⟨bst_is _, bst_is _, bst_is _, bst_is _, bst_is _, bst_is _, bst_is _, bst_is _, bst_is _, bst_is _, bst_is _, bst_is _, bst_is _, bst_is _, bst_is _, bst_is _, bst_is _, bst_is _, bst_is _, bst_is _, bst_is _, bst_is _, bst_is _, bst_is _, (fun _ _ _ hb h => (let ⟨v', h1, h2⟩ := h; ⟨v', h1, h2.below hb⟩)), (bst_is _), bst_is _, bst_is _, trivial⟩ ?_ ?_; exact ⟨stG (fun u w3 hC hd => ⟨rfl, fun Q K hK => by (go_step; exact hK _ _ rfl (Below.refl _ _) rfl)⟩), stG (fun u w3 hC hd => ⟨rfl, fun Q K hK => by (go_step; exact hK _ _ rfl (Below.refl _ _) rfl)⟩), stG (fun u w3 hC hd => ⟨rfl, fun Q K hK => by (have hu := bis (w := w3) (hd 0 rfl); rw [hu] at hK ⊢; clear hu; have hu := bis (w := w3) (hd 1 rfl); rw [hu] at hK ⊢; clear hu; go_step; exact hK _ _ rfl (Below.refl _ _) rfl)⟩), stG (fun u w3 hC hd => ⟨rfl, fun Q K hK => by (have hu := bis (w := w3) (hd 2 rfl); rw [hu] at hK ⊢; clear hu; go_step; exact hK _ _ rfl (Below.refl _ _) rfl)⟩), stG (fun u w3 hC hd => ⟨rfl, fun Q K hK => by (have hu := bis (w := w3) (hd 3 rfl); rw [hu] at hK ⊢; clear hu; have e1 := (hC.cell (p := ⟨b, o + k * 2 + 1, none⟩) hbl).trans c1; go_step; exact hK _ _ rfl (Below.refl _ _) rfl)⟩), stG (fun u w3 hC hd => ⟨rfl, fun Q K hK => by (go_step; exact hK _ _ rfl (Below.refl _ _) rfl)⟩), stG (fun u w3 hC hd => ⟨rfl, fun Q K hK => by (go_step; exact hK _ _ rfl (Below.refl _ _) rfl)⟩), stG (fun u w3 hC hd => ⟨rfl, fun Q K hK => by (have hu := bis (w := w3) (hd 6 rfl); rw [hu] at hK ⊢; clear hu; go_step; exact hK _ _ rfl (Below.refl _ _) rfl)⟩), stG (fun u w3 hC hd => ⟨rfl, fun Q K hK => by (have hu := bis (w := w3) (hd 5 rfl); rw [hu] at hK ⊢; clear hu; have hu := bis (w := w3) (hd 7 rfl); rw [hu] at hK ⊢; clear hu; go_step; exact hK _ _ rfl (Below.refl _ _) rfl)⟩), stG (fun u w3 hC hd => ⟨rfl, fun Q K hK => by (have hu := bis (w := w3) (hd 8 rfl); rw [hu] at hK ⊢; clear hu; go_step; exact hK _ _ rfl (Below.refl _ _) rfl)⟩), stG (fun u w3 hC hd => ⟨rfl, fun Q K hK => by (have hu := bis (w := w3) (hd 9 rfl); rw [hu] at hK ⊢; clear hu; have e1 := (hC.cell (p := ⟨b, o + (k + 1) * 2 + 1, none⟩) hbl).trans d1; go_step; exact hK _ _ rfl (Below.refl _ _) rfl)⟩), stG (fun u w3 hC hd => ⟨rfl, fun Q K hK => by (have hu := bis (w := w3) (hd 4 rfl); rw [hu] at hK ⊢; clear hu; have hu := bis (w := w3) (hd 10 rfl); rw [hu] at hK ⊢; clear hu; go_step; exact hK _ _ rfl (Below.refl _ _) rfl)⟩), stG (fun u w3 hC hd => ⟨rfl, fun Q K hK => by (have hu := bis (w := w3) (hd 11 rfl); rw [hu] at hK ⊢; clear hu; go_step; exact hK _ _ rfl (Below.refl _ _) rfl)⟩), stG (fun u w3 hC hd => ⟨by (have hu := bis (w := w3) (hd 12 rfl); rw [hu]; rfl), fun Q K hK => by (go_step; exact hK _ _ rfl (Below.refl _ _) rfl)⟩), stG (fun u w3 hC hd => ⟨by (have hu := bis (w := w3) (hd 12 rfl); rw [hu]; rfl), fun Q K hK => by (go_step; exact hK _ _ rfl (Below.refl _ _) rfl)⟩), stG (fun u w3 hC hd => ⟨by (have hu := bis (w := w3) (hd 12 rfl); rw [hu]; rfl), fun Q K hK => by (have hu := bis (w := w3) (hd 13 rfl); rw [hu] at hK ⊢; clear hu; have hu := bis (w := w3) (hd 14 rfl); rw [hu] at hK ⊢; clear hu; go_step; exact hK _ _ rfl (Below.refl _ _) rfl)⟩), stG (fun u w3 hC hd => ⟨by (have hu := bis (w := w3) (hd 12 rfl); rw [hu]; rfl), fun Q K hK => by (have hu := bis (w := w3) (hd 15 rfl); rw [hu] at hK ⊢; clear hu; go_step; exact hK _ _ rfl (Below.refl _ _) rfl)⟩), stG (fun u w3 hC hd => ⟨by (have hu := bis (w := w3) (hd 12 rfl); rw [hu]; rfl), fun Q K hK => by (have hu := bis (w := w3) (hd 16 rfl); rw [hu] at hK ⊢; clear hu; have e1 := (hC.cell (p := ⟨b, o + k * 2, none⟩) hbl).trans c0; go_step; exact hK _ _ rfl (Below.refl _ _) rfl)⟩), stG (fun u w3 hC hd => ⟨by (have hu := bis (w := w3) (hd 12 rfl); rw [hu]; rfl), fun Q K hK => by (go_step; exact hK _ _ rfl (Below.refl _ _) rfl)⟩), stG (fun u w3 hC hd => ⟨by (have hu := bis (w := w3) (hd 12 rfl); rw [hu]; rfl), fun Q K hK => by (go_step; exact hK _ _ rfl (Below.refl _ _) rfl)⟩), stG (fun u w3 hC hd => ⟨by (have hu := bis (w := w3) (hd 12 rfl); rw [hu]; rfl), fun Q K hK => by (have hu := bis (w := w3) (hd 19 rfl); rw [hu] at hK ⊢; clear hu; go_step; exact hK _ _ rfl (Below.refl _ _) rfl)⟩), stG (fun u w3 hC hd => ⟨by (have hu := bis (w := w3) (hd 12 rfl); rw [hu]; rfl), fun Q K hK => by (have hu := bis (w := w3) (hd 18 rfl); rw [hu] at hK ⊢; clear hu; have hu := bis (w := w3) (hd 20 rfl); rw [hu] at hK ⊢; clear hu; go_step; exact hK _ _ rfl (Below.refl _ _) rfl)⟩), stG (fun u w3 hC hd => ⟨by (have hu := bis (w := w3) (hd 12 rfl); rw [hu]; rfl), fun Q K hK => by (have hu := bis (w := w3) (hd 21 rfl); rw [hu] at hK ⊢; clear hu; go_step; exact hK _ _ rfl (Below.refl _ _) rfl)⟩), stG (fun u w3 hC hd => ⟨by (have hu := bis (w := w3) (hd 12 rfl); rw [hu]; rfl), fun Q K hK => by (have hu := bis (w := w3) (hd 22 rfl); rw [hu] at hK ⊢; clear hu; have e1 := (hC.cell (p := ⟨b, o + (k + 1) * 2, none⟩) hbl).trans d0; go_step; exact hK _ _ rfl (Below.refl _ _) rfl)⟩), stG (fun u w3 hC hd => ⟨by (have hu := bis (w := w3) (hd 12 rfl); rw [hu]; rfl), fun Q K hK => by (have hu := bis (w := w3) (hd 17 rfl); rw [hu] at hK ⊢; clear hu; have hu := bis (w := w3) (hd 23 rfl); rw [hu] at hK ⊢; clear hu; go_step; refine (l10Meet_e (hsv.below hC) (htv.below hC) HVF.out HVG.out HC.out).mono ?_; rintro e w4 ⟨v4, rfl, hm4, hb4⟩; exact hK _ _ rfl hb4 ⟨v4, rfl, hm4⟩)⟩), stG (fun u w3 hC hd => ⟨by (have hu := bis (w := w3) (hd 12 rfl); rw [hu]; rfl), fun Q K hK => by (obtain ⟨v4, hu, hm4⟩ := hd 24 rfl; rw [hu] at hK ⊢; clear hu; go_step; refine (l10Empty_b hm4 HR.out).mono ?_; rintro e w4 ⟨rfl, hb4⟩; exact hK _ _ rfl hb4 rfl)⟩), stG (fun u w3 hC hd => ⟨rfl, fun Q K hK => by (have hu := bis (w := w3) (hd 12 rfl); rw [hu] at hK ⊢; clear hu; have hu := bis (w := w3) (hd 25 rfl); rw [hu] at hK ⊢; clear hu; go_step; exact hK _ _ rfl (Below.refl _ _) rfl)⟩), stG (fun u w3 hC hd => ⟨rfl, fun Q K hK => by (have hu := bis (w := w3) (hd 26 rfl); rw [hu] at hK ⊢; clear hu; go_step; exact hK _ _ rfl (Below.refl _ _) rfl)⟩), trivial⟩); intro u w9 hb_w9 hF; rw [bis (w := w9) (hF 0 (by decide))]; rw [bis (w := w9) (hF 1 (by decide))]; rw [bis (w := w9) (hF 2 (by decide))]; rw [bis (w := w9) (hF 3 (by decide))]; rw [bis (w := w9) (hF 4 (by decide))]; rw [bis (w := w9) (hF 5 (by decide))]; rw [bis (w := w9) (hF 6 (by decide))]; rw [bis (w := w9) (hF 7 (by decide))]; rw [bis (w := w9) (hF 8 (by decide))]; rw [bis (w := w9) (hF 9 (by decide))]; rw [bis (w := w9) (hF 10 (by decide))]; rw [bis (w := w9) (hF 11 (by decide))]; rw [bis (w := w9) (hF 12 (by decide))]; rw [bis (w := w9) (hF 13 (by decide))]; rw [bis (w := w9) (hF 14 (by decide))]; rw [bis (w := w9) (hF 15 (by decide))]; rw [bis (w := w9) (hF 16 (by decide))]; rw [bis (w := w9) (hF 17 (by decide))]; rw [bis (w := w9) (hF 18 (by decide))]; rw [bis (w := w9) (hF 19 (by decide))]; rw [bis (w := w9) (hF 20 (by decide))]; rw [bis (w := w9) (hF 21 (by decide))]; rw [bis (w := w9) (hF 22 (by decide))]; rw [bis (w := w9) (hF 23 (by decide))]; generalize u 24 = vx24 at *; generalize u 25 = vx25 at *; rw [bis (w := w9) (hF 26 (by decide))]; rw [bis (w := w9) (hF 27 (by decide))]; clear hF
        have hw9 := hb1.trans (hb_w9.mono hb1.size)
        go_wp2
        go_ret
        exact ⟨ret_bool (by rw [HT.out]; simp), hw9⟩
theorem specCS_b {lo : Nat} {fs : List Ft} {v : Value} {n : Int} {w : World} {r : Bool} (hs : Fts lo w v fs) (h : cansw fs n = r) :
    Calls Tryd.prog 69 #[v, .int .i64 n] w fun e w' => e = .returned (.bool r) ∧ Below w.heap.size w w' := by
  subst h
  exact specCS_any fs v n w hs
end Go.Proofs.YtojafgooobpoiaaDoor
