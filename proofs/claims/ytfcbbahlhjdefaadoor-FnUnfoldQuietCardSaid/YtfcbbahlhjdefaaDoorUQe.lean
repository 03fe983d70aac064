/- Unfolding: the program's Unfold and the reference's. -/
import Derived.Test.YtfcbbahlhjdefaaDoorUSn
import Derived.Test.YtfcbbahlhjdefaaDoorRsQ
import Derived.Test.YtfcbbahlhjdefaaDoorRsR
import Derived.Deep.DeepCutAuto
import Derived.Deep.CutBlock
import Derived.Test.YtfcbbahlhjdefaaDoorRsH
import Derived.Test.YtfcbbahlhjdefaaDoorFnX
import Derived.Test.YtfcbbahlhjdefaaDoorRgX
import Derived.Test.YtfcbbahlhjdefaaDoorUQd
/- Unfolding: the reference's walk. -/
namespace Go.Proofs.YtfcbbahlhjdefaaDoor
open Go.RowKit
end Go.Proofs.YtfcbbahlhjdefaaDoor
/- The reference's copies of rulesets. -/
namespace Go.Proofs.YtfcbbahlhjdefaaDoor
open Go.RowKit
end Go.Proofs.YtfcbbahlhjdefaaDoor
/- A region that draws its order and turns the world by one operation; those behind wait for it through others. -/
namespace Go.Proofs.YtfcbbahlhjdefaaDoor
open Go.RowKit
section
variable (P : Program) (l : List Oper) (n : Nat) (W : World) (Fs : List (World → Value → Prop)) (Gp : Nat → World → Value → Prop) (fr : (Nat → Value) → Act) (u0 : Nat → Value)
end
section
variable {P : Program} {l : List Oper} {n : Nat} {W : World} {Fs : List (World → Value → Prop)} {Gp : Nat → World → Value → Prop} {fr : (Nat → Value) → Act} {u0 : Nat → Value}
end
section
variable {P : Program} {l : List Oper} {n : Nat} {W : World} {Fs : List (World → Value → Prop)} {G : World → Value → Prop} {Gp : Nat → World → Value → Prop} {fr : (Nat → Value) → Act} {u0 : Nat → Value} {i : Nat} {o : Oper}
end
end Go.Proofs.YtfcbbahlhjdefaaDoor
namespace Go.Proofs.YtfcbbahlhjdefaaDoor
open Go.RowKit
/-- What unfolding gives; the calls are less than f deep. -/
def ufRes (cs : List (List Ru)) (f : Nat) : Option (List Ft) := if rsvalid cs then (ufWalk cs f 0 [ball] []).map (fun q => q.2) else none
theorem ufRes_valid {cs : List (List Ru)} {f : Nat} : fvalid ((ufRes cs f).getD []) = true := by
  unfold ufRes
  split
  · cases h : ufWalk cs f 0 [ball] [] with
    | none => rfl
    | some q =>
      obtain ⟨i, o⟩ := q
      obtain ⟨-, h1, h2⟩ := ufWalk_out f 0 _ _ _ _ h (rvalid_iff.2 ⟨by simp, fun z hz => by rw [List.mem_singleton.1 hz]; exact BGood.ball.valid (by omega)⟩) ⟨by simp, fun f hf => by cases hf⟩
      exact fvalid_all.2 ⟨h1, h2⟩
  · rfl
theorem FdX.ifs {X : Nat → Prop} {lo : Nat} {w : World} {v : Value} {fs : List Ft} (h : FdX X lo w v fs) : Ifs 0 w v fs := by
  obtain ⟨rs, h1, h2⟩ := h
  exact ⟨rs, SlFr.mono (OwnSl.fr (sz := 5) (enc := R5.enc) (fun _ => rfl) h1) (Nat.zero_le _), h2.mono (fun _ _ g => ⟨(All2.mono g.1 (fun _ _ q => q.1) : All2 _ _ _), g.2⟩)⟩
theorem ball_rv : rvalid [ball] = true := rvalid_iff.2 ⟨by simp, fun z hz => by rw [List.mem_singleton.1 hz]; exact BGood.ball.valid (by omega)⟩
set_option maxHeartbeats 4000000 in
set_option maxRecDepth 100000 in
theorem unfoldValid_any {lo : Nat} (cs : List (List Ru)) (f : Nat) (acc : Bool) (v : Value) (w : World) (hs : Rss lo w v cs) (ht : Tab w) (hr : rsvalid cs = true) (hf : Ht cs f 0) {q : Bool} (hq : (ufWalk cs f 0 [ball] []).isSome = q) :
    Calls Tryd.prog 18 #[.agg #[v, .bool acc]] w fun e w' => ∃ a n c, e = .returned (.tuple #[.slice a n c, .bool q]) ∧ (∀ L o, ufWalk cs f 0 [ball] [] = some (L, o) → Ifs 0 w' (.slice a n c) o) ∧ Below w.heap.size w w' := by
  obtain ⟨hc, hn1, -, hv, -⟩ := rsvalid_in hr
  obtain ⟨va, vc, rfl, hlc, hcm⟩ := hs.form
  obtain ⟨n, hn⟩ : ∃ n, cs.length = n := ⟨_, rfl⟩
  rw [hn] at hs hn1 ⊢
  obtain ⟨W, hW⟩ : ∃ W, (w.alloc (.cells #[.slice va n vc, .bool acc] 25)).alloc (.cells #[.slice va n vc, .slice none 0 0, .bool false] 80) = W := ⟨_, rfl⟩
  have hal : Below w.heap.size w W := by rw [← hW]; (repeat' (first | with_reducible exact Below.refl _ _ | with_reducible assumption | with_reducible refine Below.setCell ?_ ?_ _ | with_reducible refine Below.alloc ?_ ?_ _ | with_reducible refine Below.drew ?_ | with_reducible refine belDrewN ?_ _ | with_reducible refine Below.trans ?_ (Below.mono (by assumption) ?_) | omega | (simp; omega) | (simp; done)))
  have hzW : w.heap.size + 1 < W.heap.size := by rw [← hW]; simp
  have HA := alloc2_cells w #[.slice va n vc, .bool acc] #[.slice va n vc, .slice none 0 0, .bool false] 25 80
  rw [hW] at HA
  have u0 : W.cell? ⟨w.heap.size + 1, 0, none⟩ = some (.slice va n vc) := (HA.2 0).1.trans rfl
  have u1 : W.cell? ⟨w.heap.size + 1, 1, none⟩ = some (.slice none 0 0) := (HA.2 1).1.trans rfl
  have u2 : W.cell? ⟨w.heap.size + 1, 2, none⟩ = some (.bool false) := (HA.2 2).1.trans rfl
  have HUI := Lib.hid (show Ui w.heap.size (w.heap.size + 1) (fun _ => False) (.slice va n vc) false W (.slice none 0 0) [] from
    ⟨hzW, by omega, u0, u1, u2, (HA.2 1).2, (HA.2 2).2, FdX.nil, fun z hz => by simp [Value.ownBlock] at hz⟩)
  have HS := Lib.hid hs
  have HTW := Lib.hid (ht.below hal)
  have HAL := Lib.hid hal
  have HCH := Lib.hid (fun (iv : Value) (w1 : World) => chain_any cs hc hv (.slice va n vc) w hs ht f 0 [ball] [] (w.heap.size + 1) (fun _ => False) (.slice none 0 0) iv w1 hf (by omega))
  have HQ := Lib.hid hq
  clear hal HA u0 u1 u2 hs ht hc hv hf hr hlc hcm hq hn
  go_enter Tryd.func18, Tryd.ntmps18
  go_wp2_with fail
  refine (allSides_any W HTW.out).mono ?_
  rintro e w1 ⟨s0, s1, s2, s3, rfl, hsd, hb1⟩
  clear hW
  obtain ⟨a0, n0, p0, a1, n1, p1, a2, n2, p2, a3, n3, p3, rfl, rfl, rfl, rfl⟩ := sl4_form hsd
  obtain ⟨V, hV⟩ : ∃ V, w1.alloc (.cells #[.slice a0 n0 p0, .slice a1 n1 p1, .slice a2 n2 p2, .slice a3 n3 p3] 84) = V := ⟨_, rfl⟩
  have halV : Below w1.heap.size w1 V := by rw [← hV]; exact (Below.refl _ _).alloc (Nat.le_refl _) _
  have hz1 := hb1.size
  have HIN := Lib.hid (show SxV (ZS (w.heap.size + 1) (.slice none 0 0) (fun _ => False)) V (.slice (some ⟨w1.heap.size, 0, none⟩) 1 1) [ball] from by
    rw [← hV]
    refine ⟨[⟨.slice a0 n0 p0, .slice a1 n1 p1, .slice a2 n2 p2, .slice a3 n3 p3⟩], ⟨SlFr.of (lit4_at w1 _ _ _ _ _), fun q n c e hne hp => ?_⟩, rfl, fun i x y hx hy => ?_⟩
    · obtain ⟨e1, -, -⟩ := Value.slice.inj e
      cases e1
      rcases hp with hp | hp | hp
      · simp only at hp; omega
      · simp [Value.ownBlock] at hp
      · exact hp
    · match i, hx, hy with
      | 0, hx, hy =>
        cases hx; cases hy
        rw [hV]
        exact hsd.mono (fun _ _ g => SpV.highX (g.below halV) (fun k hk => by
          rcases hk with e | e | e
          · omega
          · simp [Value.ownBlock] at e
          · exact e.elim))
      | i + 1, hx, hy => simp at hx)
  have hWV := hb1.trans (halV.mono hz1)
  have hwV := HAL.out.trans (hWV.mono HAL.out.size)
  have HUV := Lib.hid (HUI.out.below hWV)
  have HRC := Lib.hid (HCH.out (.slice (some ⟨w1.heap.size, 0, none⟩) 1 1) V hwV (fun _ h => h.elim) HUV.out HIN.out ball_rv (by simp))
  clear hsd halV hb1 hWV
  go_wp2_with fail
  refine HRC.out.mono ?_
  rintro e w4 ⟨z, L, o, ov', q4, rfl, hb4, hu4, hz4, hl4, ht4, hq4⟩
  obtain ⟨oa, oc, hov⟩ := hu4.o.form
  obtain ⟨on, hon⟩ : ∃ on, o.length = on := ⟨_, rfl⟩
  rw [hon] at hov
  subst hov
  have c1 := hu4.c1
  have c2 := hu4.c2
  have hU4 := hu4.lt
  have hw4 : Below w.heap.size w w4 := hwV.trans hb4
  have HEQ : q = !q4 := by
    rw [← HQ.out]
    rcases hq4 with ⟨rfl, h⟩ | ⟨rfl, h⟩
    · rw [h]; rfl
    · rw [h]; rfl
  have HIF := Lib.hid (show ∀ L o, ufWalk cs f 0 [ball] [] = some (L, o) → Ifs 0 w4 (.slice oa on oc) o from fun L' o' h => by
    rcases hq4 with ⟨-, h2⟩ | ⟨-, h2⟩
    · rw [h] at h2
      cases h2
      exact hu4.o.ifs
    · rw [h] at h2; cases h2)
  subst HEQ
  clear hu4 hz4 hl4 ht4 hq4 hb4 hon
  go_wp2_with fail
  (refine wp_region_bel (W := w4) [BIs (.pointer (some ⟨w.heap.size + 1, 0, none⟩)), BIs (.pointer (some ⟨w.heap.size + 1, 0, none⟩)), BIs (.pointer (some ⟨w.heap.size + 1, 1, none⟩)), BIs (.slice oa on oc), BIs (.pointer (some ⟨w.heap.size + 1, 0, none⟩)), BIs (.pointer (some ⟨w.heap.size + 1, 0, none⟩)), BIs (.pointer (some ⟨w.heap.size + 1, 2, none⟩)), BIs (.bool q4), BIs (.bool (!q4)), BIs (.slice oa on oc), BIs (.bool (!q4))] (by kernel_rfl) (fun u => by simp only [frU, Act.put, List.setIfInBounds_toArray, List.set_cons_succ, List.set_cons_zero, Nat.zero_add, Nat.reduceAdd]; exact rfl) (by kernel_rfl) ⟨bst_is _, bst_is _, bst_is _, bst_is _, bst_is _, bst_is _, bst_is _, bst_is _, bst_is _, bst_is _, bst_is _, trivial⟩ ?_ ?_; exact ⟨stB rfl (fun u w3 hC hd Q K hK => by (go_step; exact hK _ _ rfl (Below.refl _ _) rfl)), stB rfl (fun u w3 hC hd Q K hK => by (have hu := bis (w := w3) (hd 0 rfl); rw [hu] at hK ⊢; clear hu; go_step; exact hK _ _ rfl (Below.refl _ _) rfl)), stB rfl (fun u w3 hC hd Q K hK => by (have hu := bis (w := w3) (hd 1 rfl); rw [hu] at hK ⊢; clear hu; go_step; exact hK _ _ rfl (Below.refl _ _) rfl)), stB rfl (fun u w3 hC hd Q K hK => by (have hu := bis (w := w3) (hd 2 rfl); rw [hu] at hK ⊢; clear hu; have z0 := (hC.cell (p := ⟨w.heap.size + 1, 1, none⟩) hU4).trans c1; go_step; exact hK _ _ rfl (Below.refl _ _) rfl)), stB rfl (fun u w3 hC hd Q K hK => by (go_step; exact hK _ _ rfl (Below.refl _ _) rfl)), stB rfl (fun u w3 hC hd Q K hK => by (have hu := bis (w := w3) (hd 4 rfl); rw [hu] at hK ⊢; clear hu; go_step; exact hK _ _ rfl (Below.refl _ _) rfl)), stB rfl (fun u w3 hC hd Q K hK => by (have hu := bis (w := w3) (hd 5 rfl); rw [hu] at hK ⊢; clear hu; go_step; exact hK _ _ rfl (Below.refl _ _) rfl)), stB rfl (fun u w3 hC hd Q K hK => by (have hu := bis (w := w3) (hd 6 rfl); rw [hu] at hK ⊢; clear hu; have z0 := (hC.cell (p := ⟨w.heap.size + 1, 2, none⟩) hU4).trans c2; go_step; exact hK _ _ rfl (Below.refl _ _) rfl)), stB rfl (fun u w3 hC hd Q K hK => by (have hu := bis (w := w3) (hd 7 rfl); rw [hu] at hK ⊢; clear hu; go_step; exact hK _ _ rfl (Below.refl _ _) rfl)), stB rfl (fun u w3 hC hd Q K hK => by (have hu := bis (w := w3) (hd 3 rfl); rw [hu] at hK ⊢; clear hu; go_step; exact hK _ _ rfl (Below.refl _ _) rfl)), stB rfl (fun u w3 hC hd Q K hK => by (have hu := bis (w := w3) (hd 8 rfl); rw [hu] at hK ⊢; clear hu; go_step; exact hK _ _ rfl (Below.refl _ _) rfl)), trivial⟩); intro u w9 hb_w9 hF; rw [bis (w := w9) (hF 0 (by decide))]; rw [bis (w := w9) (hF 1 (by decide))]; rw [bis (w := w9) (hF 2 (by decide))]; rw [bis (w := w9) (hF 3 (by decide))]; rw [bis (w := w9) (hF 4 (by decide))]; rw [bis (w := w9) (hF 5 (by decide))]; rw [bis (w := w9) (hF 6 (by decide))]; rw [bis (w := w9) (hF 7 (by decide))]; rw [bis (w := w9) (hF 8 (by decide))]; rw [bis (w := w9) (hF 9 (by decide))]; rw [bis (w := w9) (hF 10 (by decide))]; clear hF
  go_wp2
  go_ret2
  exact ⟨_, _, _, rfl, fun L o h => (HIF.out L o h).below hb_w9, hw4.trans (hb_w9.mono hw4.size)⟩
set_option maxHeartbeats 4000000 in
set_option maxRecDepth 100000 in
theorem implUf_any {lo : Nat} (cs : List (List Ru)) (f : Nat) (acc : Bool) (v : Value) (w : World) (hs : Rss lo w v cs) (ht : Tab w) (hf : rsvalid cs = true → Ht cs f 0) {q : Bool} (hq : (ufRes cs f).isSome = q) :
    Calls Tryd.prog 7 #[.agg #[v, .bool acc]] w fun e w' => ∃ v', e = .returned (.tuple #[v', .bool q]) ∧ GFs w' w.heap.size w'.heap.size v' ((ufRes cs f).getD []) ∧ Below w.heap.size w w' := by
  obtain ⟨va, vc, rfl, hlc, hcm⟩ := hs.form
  obtain ⟨n, hn⟩ : ∃ n, cs.length = n := ⟨_, rfl⟩
  rw [hn] at hs ⊢
  obtain ⟨W, hW⟩ : ∃ W, w.alloc (.cells #[.slice va n vc, .bool acc] 25) = W := ⟨_, rfl⟩
  have hal : Below w.heap.size w W := by rw [← hW]; exact (Below.refl _ _).alloc (Nat.le_refl _) _
  have hzW : w.heap.size < W.heap.size := by rw [← hW]; simp
  have c0 : W.cell? ⟨w.heap.size, 0, none⟩ = some (.slice va n vc) := by rw [← hW]; simp
  have c1 : W.cell? ⟨w.heap.size, 1, none⟩ = some (.bool acc) := by rw [← hW]; simp
  have HS := Lib.hid (hs.below hal)
  have HTW := Lib.hid (ht.below hal)
  have HF := Lib.hid hf
  have HQ := Lib.hid hq
  obtain ⟨rv, hrv⟩ : ∃ rv, rsvalid cs = rv := ⟨_, rfl⟩
  have HRV := Lib.hid hrv
  clear hs ht hf hq hlc hcm hn hrv
  go_enter Tryd.func7, Tryd.ntmps7
  go_wp2_with fail
  refine (implRstV_b HS.out HTW.out HRV.out).mono ?_
  rintro e w1 ⟨rfl, hb1⟩
  have hz1 := hb1.size
  have hw1 := hal.trans (hb1.mono hal.size)
  cases rv
  · have HR := Lib.hid (show ufRes cs f = none by unfold ufRes; rw [HRV.out]; rfl)
    have hq0 : q = false := by rw [← HQ.out, HR.out]; rfl
    subst hq0
    go_wp2
    go_ret2
    refine ⟨_, rfl, ?_, hw1⟩
    rw [HR.out]
    exact OwnG.nil (OwnSl.nil _ _ _ _ _) (fun z hz => by cases hz) hw1.size
  · have HR := Lib.hid (show ufRes cs f = (ufWalk cs f 0 [ball] []).map (fun q => q.2) by unfold ufRes; rw [HRV.out]; rfl)
    have HQ2 := Lib.hid (show (ufWalk cs f 0 [ball] []).isSome = q by rw [← HQ.out, HR.out, Option.isSome_map])
    have k0 := (hb1.cell (p := ⟨w.heap.size, 0, none⟩) hzW).trans c0
    have k1 := (hb1.cell (p := ⟨w.heap.size, 1, none⟩) hzW).trans c1
    go_wp2_with fail
    refine (unfoldValid_any cs f acc _ w1 (HS.out.below hb1) (HTW.out.below hb1) HRV.out (HF.out HRV.out) HQ2.out).mono ?_
    rintro e w2 ⟨a2, n2, p2, rfl, hif, hb2⟩
    have hw2 := hw1.trans (hb2.mono hw1.size)
    have HIF := Lib.hid hif
    clear hif k0 k1
    cases q
    · have HN := Lib.hid (show ufRes cs f = none by
        have h := HQ.out
        cases e : ufRes cs f with
        | none => rfl
        | some x => rw [e] at h; cases h)
      go_wp2
      go_ret2
      refine ⟨_, rfl, ?_, hw2⟩
      rw [HN.out]
      exact OwnG.nil (OwnSl.nil _ _ _ _ _) (fun z hz => by cases hz) hw2.size
    · obtain ⟨⟨L, o⟩, hLo⟩ : ∃ x, ufWalk cs f 0 [ball] [] = some x := Option.isSome_iff_exists.1 HQ2.out
      have HO := Lib.hid (show (ufRes cs f).getD [] = o by rw [HR.out, hLo]; rfl)
      have HOV := Lib.hid (show fvalid o = true by rw [← HO.out]; exact ufRes_valid)
      have HI2 := Lib.hid (HIF.out L o hLo)
      have HW2 := Lib.hid hw2
      clear hLo
      go_wp2_with fail
      refine (newFlats_e HI2.out HOV.out HW2.out).mono ?_
      rintro e w3 ⟨v3, rfl, hg3, hb3⟩
      go_wp2
      go_ret2
      exact ⟨_, rfl, by rw [HO.out]; exact hg3, hb3⟩
end Go.Proofs.YtfcbbahlhjdefaaDoor
