/- Dead rules: both walks; lists of numbers in an interval of blocks. -/
import Derived.Test.YtajcogpfmpehkaaGreatDoorHtP
import Derived.Test.YtajcogpfmpehkaaGreatDoorFnX
import Derived.Test.YtajcogpfmpehkaaGreatDoorLvS
namespace Go.Proofs.YtajcogpfmpehkaaGreatDoor
open Go.RowKit
/-- Numbers of the call's own. -/
def GIn (w : World) (lo hi : Nat) (v : Value) (xs : List Int) : Prop := OwnI 3 1 encI w lo hi v xs
theorem GIn.kind : Kind GIn := ⟨fun _ _ _ _ _ h => h.2.2, fun _ _ _ _ _ _ h hw => OwnI.keep h hw⟩
theorem GIn.rd {w : World} {lo hi : Nat} {v : Value} {xs : List Int} (h : GIn w lo hi v xs) : Ins w v xs := OwnIn.ins h.1
theorem GIn.of {w : World} {lo hi : Nat} {v : Value} {xs : List Int} (h : OwnIn lo w v xs) (h1 : w.heap.size ≤ hi) (h2 : lo ≤ hi) : GIn w lo hi v xs := ⟨h, fun z hz => Nat.lt_of_lt_of_le (World.ownsRow.lt h z hz).2 h1, h2⟩
set_option maxHeartbeats 2000000 in
set_option maxRecDepth 100000 in
theorem l14Dead_any {lo : Nat} (fs : List Ft) (v : Value) (k : Nat) (w : World) (hs : Fts lo w v fs) (hv : fvalid fs = true) (hk : k < fs.length) :
    Calls Tryz.prog 96 #[v, .int .i64 (k : Int)] w fun e w' => e = .returned (.bool (deadk fs k)) ∧ Below w.heap.size w w' := by
  obtain ⟨a, cap, rfl, hlc, hcm⟩ := hs.form
  unfold maxLen at hcm
  generalize hn : fs.length = m at *
  have HN := Lib.hid hn
  obtain ⟨f, hx⟩ : ∃ f, fs[k]? = some f := ⟨_, List.getElem?_eq_getElem (by omega)⟩
  obtain ⟨b, o, sv, rfl, hbl, c0, c1, hsv⟩ := hs.at hx
  obtain ⟨O, hO⟩ : ∃ O, livek fs k = O := ⟨_, rfl⟩
  have HL := Lib.hid (show blessB f.box (fboxes (fs.take k)) = O by rw [← hO]; unfold livek; rw [hx])
  have HD := Lib.hid (deadk_of hO)
  have HT := Lib.hid (Fts.takeS hs (Nat.le_of_lt hk))
  have HSV := Lib.hid hsv
  have HFV := Lib.hid (fvalid_at hv hx)
  have HV := Lib.hid hv
  have i1 : (k : Int) < (m : Int) := by omega
  have i2 : (0 : Int) ≤ (k : Int) := by omega
  have i3 : (k : Int) ≤ (cap : Int) := by omega
  clear hx hsv hO hs hn hv
  have HLV := Lib.hid (show (O.getD []).length ≤ 400 by
    have h1 := HL.out
    cases O with
    | none => simp
    | some ys => exact (rvalid_all (blessB_valid HFV.out h1)).1)
  go_enter Tryz.func96, Tryz.ntmps96
  go_wp2_with fail
  (refine wp_region_bel (W := w) [BIs (.slice (some ⟨b, o, none⟩) m cap), BIs (.int .i64 (k : Int)), BIs (.pointer (some ⟨b, o + k * 2, none⟩)), BIs (.pointer (some ⟨b, o + k * 2, none⟩)), BIs (.agg #[sv]), BIs (.slice (some ⟨b, o, none⟩) m cap), BIs (.int .i64 (k : Int)), BIs (.slice (some ⟨b, o, none⟩) k cap), (fun w v => Bxs 0 w v (fboxes (fs.take k))), (fun w v => ∃ z, v = .tuple #[z, .bool O.isSome] ∧ Bxs 0 w z (O.getD [])), (fun w v => ∃ z, v = .tuple #[z, .bool O.isSome] ∧ Bxs 0 w z (O.getD [])), (fun w z => Bxs 0 w z (O.getD [])), BIs (.bool O.isSome), (fun w z => Bxs 0 w z (O.getD [])), BIs (.bool O.isSome)] (by kernel_rfl) (fun u => by simp only [frU, Act.put, List.setIfInBounds_toArray, List.set_cons_succ, List.set_cons_zero, Nat.zero_add, Nat.reduceAdd]; exact rfl) (by kernel_rfl) ⟨bst_is _, bst_is _, bst_is _, bst_is _, bst_is _, bst_is _, bst_is _, bst_is _, (fun _ _ _ hb h => h.below hb), (fun _ _ _ hb ⟨z, h1, h2⟩ => ⟨z, h1, h2.below hb⟩), (fun _ _ _ hb ⟨z, h1, h2⟩ => ⟨z, h1, h2.below hb⟩), (fun _ _ _ hb h => h.below hb), bst_is _, (fun _ _ _ hb h => h.below hb), bst_is _, trivial⟩ ?_ ?_; exact ⟨stB rfl (fun u w3 hC hd Q K hK => by (go_step; exact hK _ _ rfl (Below.refl _ _) rfl)), stB rfl (fun u w3 hC hd Q K hK => by (go_step; exact hK _ _ rfl (Below.refl _ _) rfl)), stB rfl (fun u w3 hC hd Q K hK => by (have hu := bis (w := w3) (hd 0 rfl); rw [hu] at hK ⊢; clear hu; have hu := bis (w := w3) (hd 1 rfl); rw [hu] at hK ⊢; clear hu; go_step; exact hK _ _ rfl (Below.refl _ _) rfl)), stB rfl (fun u w3 hC hd Q K hK => by (have hu := bis (w := w3) (hd 2 rfl); rw [hu] at hK ⊢; clear hu; go_step; exact hK _ _ rfl (Below.refl _ _) rfl)), stB rfl (fun u w3 hC hd Q K hK => by (have hu := bis (w := w3) (hd 3 rfl); rw [hu] at hK ⊢; clear hu; have z0 := (hC.cell (p := ⟨b, o + k * 2, none⟩) hbl).trans c0; go_step; exact hK _ _ rfl (Below.refl _ _) rfl)), stB rfl (fun u w3 hC hd Q K hK => by (go_step; exact hK _ _ rfl (Below.refl _ _) rfl)), stB rfl (fun u w3 hC hd Q K hK => by (go_step; exact hK _ _ rfl (Below.refl _ _) rfl)), stB rfl (fun u w3 hC hd Q K hK => by (have hu := bis (w := w3) (hd 5 rfl); rw [hu] at hK ⊢; clear hu; have hu := bis (w := w3) (hd 6 rfl); rw [hu] at hK ⊢; clear hu; go_step; exact hK _ _ rfl (Below.refl _ _) rfl)), stB rfl (fun u w3 hC hd Q K hK => by (have hu := bis (w := w3) (hd 7 rfl); rw [hu] at hK ⊢; clear hu; go_step; refine (specFB_v (fs.take k) _ _ (HT.out.below hC) (fvalid_take HV.out k)).mono ?_; rintro e w4 ⟨z4, rfl, ho4, hb4⟩; exact hK _ _ rfl hb4 ho4)), stB rfl (fun u w3 hC hd Q K hK => by (have hu := bis (w := w3) (hd 4 rfl); rw [hu] at hK ⊢; clear hu; have ho1 := hd 8 rfl; generalize u 8 = v1 at *; go_step; refine (specLess_r HL.out (HSV.out.below hC) ho1 HFV.out (fboxes_valid (fvalid_take HV.out k))).mono ?_; rintro e w4 ⟨z4, rfl, ho4, hb4⟩; exact hK _ _ rfl hb4 ⟨z4, rfl, ho4⟩)), stB rfl (fun u w3 hC hd Q K hK => by (obtain ⟨z, hu, hz⟩ := hd 9 rfl; rw [hu] at hK ⊢; clear hu; go_step; exact hK _ _ rfl (Below.refl _ _) ⟨z, rfl, hz⟩)), stB rfl (fun u w3 hC hd Q K hK => by (obtain ⟨z, hu, hz⟩ := hd 10 rfl; rw [hu] at hK ⊢; clear hu; go_step; exact hK _ _ rfl (Below.refl _ _) hz)), stB rfl (fun u w3 hC hd Q K hK => by (obtain ⟨z, hu, hz⟩ := hd 10 rfl; rw [hu] at hK ⊢; clear hu; go_step; exact hK _ _ rfl (Below.refl _ _) rfl)), stB rfl (fun u w3 hC hd Q K hK => by (have h2 := hd 11 rfl; generalize u 11 = v2 at *; go_step; exact hK _ _ rfl (Below.refl _ _) h2)), stB rfl (fun u w3 hC hd Q K hK => by (have hu := bis (w := w3) (hd 12 rfl); rw [hu] at hK ⊢; clear hu; go_step; exact hK _ _ rfl (Below.refl _ _) rfl)), trivial⟩); intro u w9 hb_w9 hF; rw [bis (w := w9) (hF 0 (by decide))]; rw [bis (w := w9) (hF 1 (by decide))]; rw [bis (w := w9) (hF 2 (by decide))]; rw [bis (w := w9) (hF 3 (by decide))]; rw [bis (w := w9) (hF 4 (by decide))]; rw [bis (w := w9) (hF 5 (by decide))]; rw [bis (w := w9) (hF 6 (by decide))]; rw [bis (w := w9) (hF 7 (by decide))]; generalize u 8 = vx8 at *; generalize u 9 = vx9 at *; generalize u 10 = vx10 at *; generalize u 11 = vx11 at *; rw [bis (w := w9) (hF 12 (by decide))]; have hz8 := hF 13 (by decide); generalize u 13 = z8 at *; rw [bis (w := w9) (hF 14 (by decide))]; clear hF
  replace hz8 : Bxs 0 w9 z8 (O.getD []) := hz8
  obtain ⟨za, zc, rfl, -, -⟩ := hz8.form
  have HD2 := Lib.hid (show deadk fs k = (O.isSome && decide ((O.getD []).length = 0)) by
    rw [HD.out]
    cases O with
    | none => rfl
    | some ys => cases ys <;> simp)
  generalize (O.getD []).length = zn at *
  cases O with
  | none =>
    go_wp2
    go_ret
    exact ⟨ret_bool (by rw [HD2.out]; rfl), hb_w9⟩
  | some ys =>
    by_cases hzn : zn = 0
    · subst hzn
      go_wp2
      go_ret
      exact ⟨ret_bool (by rw [HD2.out]; rfl), hb_w9⟩
    · have hne : ((zn : Int) == 0) = false := by simpa using hzn
      have HZN := Lib.hid (decide_eq_false hzn)
      clear hzn
      go_wp2
      go_ret
      exact ⟨ret_bool (by rw [HD2.out, HZN.out]; rfl), hb_w9⟩
theorem l14Dead_b {lo : Nat} {fs : List Ft} {v : Value} {k : Nat} {w : World} {r : Bool} (hs : Fts lo w v fs) (hv : fvalid fs = true) (hk : k < fs.length) (h : deadk fs k = r) :
    Calls Tryz.prog 96 #[v, .int .i64 (k : Int)] w fun e w' => e = .returned (.bool r) ∧ Below w.heap.size w w' := by
  subst h
  exact l14Dead_any fs v k w hs hv hk
end Go.Proofs.YtajcogpfmpehkaaGreatDoor
