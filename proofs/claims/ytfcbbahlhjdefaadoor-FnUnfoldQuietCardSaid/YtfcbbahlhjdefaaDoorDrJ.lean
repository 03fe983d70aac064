/- The drawn ruleset and packet of the law without decisions. -/
import Derived.Test.YtfcbbahlhjdefaaDoorRdRd
import Derived.Test.YtfcbbahlhjdefaaDoorDxN
import Derived.Test.YtfcbbahlhjdefaaDoorRgN
namespace Go.Proofs.YtfcbbahlhjdefaaDoor
open Go.RowKit
/-- A list of tests of the call's own, and tests behind it. -/
theorem OwnTd.more {base : Nat} {w : World} {v vx : Value} {ys zs : List Te} (ty : TypeId) (h : OwnTd base w v ys) (hx : Tes w vx zs) (hl : ys.length + zs.length ≤ 100000) (hb : base ≤ w.heap.size) :
    ∃ v' w', (Builtin.append_ #[32, 32] ty #[v, vx]).run Tryd.prog w = .ok v' w' ∧ OwnTd base w' v' (ys ++ zs) ∧ Below base w w' := by
  obtain ⟨i0, hi, hy0, hy1, hy2⟩ := info_parts infoTe
  have hone : ∀ u ∈ zs.flatMap Te.enc, u.oneCell' = true := fun u hu => by
    obtain ⟨t, -, hu⟩ := List.mem_flatMap.1 hu
    simp only [Te.enc, List.mem_cons, List.not_mem_nil, or_false] at hu
    rcases hu with rfl | rfl | rfl | rfl <;> rfl
  obtain ⟨v', w', hrun, hown, hgr, -⟩ := own_append_all (sz := 4) (enc := Te.enc) (by omega) (fun _ => rfl) (P := Tryd.prog) 32 ty 108 i0 _ 32 Tryd.underlying32 hi hy0 hy1 hy2 rfl hone h hx (by omega) (by simp only [maxLen]; omega) hb
  exact ⟨v', w', hrun, hown, (Below.refl _ _).grown hgr hb (fun z hz => (World.ownsRow.lt h z hz).1)⟩
theorem OwnTd.form {base : Nat} {w : World} {v : Value} {ys : List Te} (h : OwnTd base w v ys) : ∃ a c, v = .slice a ys.length c := by
  rcases OwnSl.form h with ⟨h1, h2⟩ | ⟨g, c, h1, _⟩
  · exact ⟨_, _, by rw [h1, h2]; rfl⟩
  · exact ⟨_, _, h1⟩
/-- The case under way: base is the block of the tests' first literal, C the variable's. -/
structure CaS (R : Nat) (bs : List Int) (lo C : Nat) (W : World) (cv : Value) (cs : List (List Ru)) (wr : World) (tv : Value) (ts : List Te) (q : Nat) : Prop where
  rd : RdAt R bs wr q
  o : OwnTd (C + 1) wr tv ts
  mv : Mv R (C + 1) W wr
theorem CaS.mv' {R : Nat} {bs : List Int} {lo C : Nat} {W : World} {cv : Value} {cs : List (List Ru)} {wr wy : World} {tv : Value} {ts : List Te} {q q' : Nat} (S : CaS R bs lo C W cv cs wr tv ts q) (hC : C + 1 ≤ W.heap.size) (hR : R < C) (hr : RdAt R bs wy q') (hm : Mv R wr.heap.size wr wy) : CaS R bs lo C W cv cs wy tv ts q' :=
  ⟨hr, OwnSl.mvK S.o hm (by omega), S.mv.trans (hm.mono (by have := S.mv.size; omega))⟩
def DrawnCa (R : Nat) (bs : List Int) (p : Nat) (w : World) (e : Ending) (w' : World) : Prop :=
  ∃ v cs acc x q, e = .returned (.tuple #[.agg #[v, .bool acc], Pk.v x]) ∧ Rss w.heap.size w' v cs ∧ cs.length ≤ 3 ∧ RcOk cs ∧ RdAt R bs w' q ∧ q ≤ p + 200000 ∧ Mv R w.heap.size w w'
set_option maxHeartbeats 4000000 in
set_option maxRecDepth 100000 in
theorem drawCa_any (R : Nat) (bs : List Int) (p : Nat) (n : Int) (h1 : 1 ≤ n ∧ n ≤ 100) (w : World) (h : RdAt R bs w p) (hp : p ≤ 400000) :
    Calls Tryd.prog 12 #[.pointer (some ⟨R, 0, none⟩), .int .i64 n] w (DrawnCa R bs p w) := by
  have hR := h.lt
  obtain ⟨W, hW⟩ : ∃ W, (w.alloc (.cells #[.slice none 0 0, .bool false] 25)).alloc (.cells #[.int .i64 0, .int .i64 0, .int .i64 0, .int .i64 0] 27) = W := ⟨_, rfl⟩
  have hal : Below w.heap.size w W := by rw [← hW]; (repeat' (first | with_reducible exact Below.refl _ _ | with_reducible assumption | with_reducible refine Below.setCell ?_ ?_ _ | with_reducible refine Below.alloc ?_ ?_ _ | with_reducible refine Below.drew ?_ | with_reducible refine belDrewN ?_ _ | with_reducible refine Below.trans ?_ (Below.mono (by assumption) ?_) | omega | (simp; omega) | (simp; done)))
  have hzW : W.heap.size = w.heap.size + 2 := by rw [← hW]; simp
  have HA := alloc2_cells w #[.slice none 0 0, .bool false] #[.int .i64 0, .int .i64 0, .int .i64 0, .int .i64 0] 25 27
  rw [hW] at HA
  have A0 : W.cell? ⟨w.heap.size, 0, none⟩ = some (.slice none 0 0) := (HA.1 0).1
  have A1 : W.cell? ⟨w.heap.size, 1, none⟩ = some (.bool false) := (HA.1 1).1
  have AF : ∀ j, W.frozen? ⟨w.heap.size, j, none⟩ = false := fun j => (HA.1 j).2
  have hB4 : Box4 W (w.heap.size + 1) 0 0 0 0 := ⟨by omega, (HA.2 0).1, (HA.2 1).1, (HA.2 2).1, (HA.2 3).1, fun j => (HA.2 j).2⟩
  have HA9 := Lib.hid (And.intro A0 (And.intro A1 (And.intro AF hB4)))
  have HAL := Lib.hid hal
  have hr0 := h.below hal
  clear HA A0 A1 AF hB4 hal h
  go_enter Tryd.func12, Tryd.ntmps12
  go_wp2_with fail
  clear hW
  refine (drawRc_any R bs p n h1 _ hr0 (by omega)).mono ?_
  rintro e w2 ⟨v2, cs, acc, q2, rfl, hs2, hl2, hk2, hr2, hq2, hm2⟩
  have hz2 := hm2.size
  obtain ⟨va, vc, rfl, -, hcm⟩ := hs2.form
  unfold maxLen at hcm
  obtain ⟨nn, hnn⟩ : ∃ nn, cs.length = nn := ⟨_, rfl⟩
  rw [hnn] at hs2 hl2 ⊢
  obtain ⟨W2, hW2⟩ : ∃ W2, (w2.alloc (.cells #[.slice va nn vc, .bool acc] 25)).alloc (.cells #[] 108) = W2 := ⟨_, rfl⟩
  have hal2 : Below w2.heap.size w2 W2 := by rw [← hW2]; (repeat' (first | with_reducible exact Below.refl _ _ | with_reducible assumption | with_reducible refine Below.setCell ?_ ?_ _ | with_reducible refine Below.alloc ?_ ?_ _ | with_reducible refine Below.drew ?_ | with_reducible refine belDrewN ?_ _ | with_reducible refine Below.trans ?_ (Below.mono (by assumption) ?_) | omega | (simp; omega) | (simp; done)))
  have hzW2 : W2.heap.size = w2.heap.size + 2 := by rw [← hW2]; simp
  have HA2 := alloc2_cells w2 #[.slice va nn vc, .bool acc] #[] 25 108
  rw [hW2] at HA2
  have c0 : W2.cell? ⟨w2.heap.size, 0, none⟩ = some (.slice va nn vc) := (HA2.1 0).1
  have c1 : W2.cell? ⟨w2.heap.size, 1, none⟩ = some (.bool acc) := (HA2.1 1).1
  have hlit := OwnTd.lit (base := w2.heap.size + 1) (w := w2.alloc (.cells #[.slice va nn vc, .bool acc] 25)) (by simp)
  rw [hW2] at hlit
  have HS0 := Lib.hid (show CaS R bs W.heap.size w2.heap.size W2 (.slice va nn vc) cs W2 (.slice (some ⟨w2.heap.size + 1, 0, none⟩) 0 0) [] q2 from ⟨hr2.below hal2, by simpa using hlit, Mv.refl _ _ _⟩)
  have HC := Lib.hid (And.intro c0 c1)
  have HRS := Lib.hid hs2
  have HAL2 := Lib.hid hal2
  have HK := Lib.hid hk2
  have HNN := Lib.hid hnn
  have HM2 := Lib.hid (hm2.trans ((Mv.of_below hal2).mono hz2))
  have hRl : R < w2.heap.size := by omega
  clear HA2 hlit hs2 hk2 hnn hm2 hr2 hal2 c0 c1 hr0
  go_wp2_with fail
  clear hW2
  go_loopw [7, 8] (fun tv i wr => ∃ (c : Nat) (ts : List Te) (q : Nat), c ≤ nn ∧ i = .int .i64 c ∧ Hid (CaS R bs W.heap.size w2.heap.size W2 (.slice va nn vc) cs wr tv ts q) ∧ Hid (ts.length ≤ 70 * c) ∧ q ≤ q2 + 20 * c) (fun _ i _ => nn - (intOf i).toNat)
  case atStart => exact ⟨0, [], q2, by omega, rfl, HS0, Lib.hid (by simp), by omega⟩
  case round =>
    clear HS0
    obtain ⟨c, ts, q, hc, rfl, HS, HL, hq⟩ := hrel
    have HKP := Lib.hid (show ∀ wy, Mv R (w2.heap.size + 1) W2 wy → wy.cell? ⟨w2.heap.size, 0, none⟩ = some (.slice va nn vc) ∧ wy.cell? ⟨w2.heap.size, 1, none⟩ = some (.bool acc) ∧ Rss W.heap.size wy (.slice va nn vc) cs from fun wy hm =>
      ⟨(mvC hm w2.heap.size (by omega) (by omega) 0).trans HC.out.1, (mvC hm w2.heap.size (by omega) (by omega) 1).trans HC.out.2, HRS.out.keep ⟨by have := hm.size; omega, fun k k1 k2 => (hm.block k (by omega) (by omega)).trans (HAL2.out.block k k2)⟩⟩)
    obtain ⟨e0, e1, hrs⟩ := HKP.out wr HS.out.mv
    have hzr := HS.out.mv.size
    by_cases hcn : c < nn
    · have i1 : (c : Int) < (nn : Int) := by omega
      have i2 : (0 : Int) ≤ (c : Int) := by omega
      obtain ⟨rs, hrs2⟩ : ∃ rs, cs[c]? = some rs := ⟨_, List.getElem?_eq_getElem (by rw [HNN.out]; exact hcn)⟩
      have hrl := HK.out c rs hrs2
      have HRL := Lib.hid hrl
      have HCS := Lib.hid hrs2
      obtain ⟨rn, hrn⟩ : ∃ rn, rs.length = rn := ⟨_, rfl⟩
      have hr10 : rn ≤ 10 := by rw [← hrn]; exact hrl.1
      have HRN := Lib.hid hrn
      clear hrs2 hrl hrn hrs
      go_wp2_with fail
      go_loopw [7, 9] (fun tv i wr => ∃ (k : Nat) (ts2 : List Te) (q3 : Nat), k ≤ rn ∧ i = .int .i64 k ∧ Hid (CaS R bs W.heap.size w2.heap.size W2 (.slice va nn vc) cs wr tv ts2 q3) ∧ Hid (ts2.length ≤ 70 * c + 7 * k) ∧ q3 ≤ q + k) (fun _ i _ => rn - (intOf i).toNat)
      case atStart => exact ⟨0, ts, q, by omega, rfl, HS, Lib.hid (by have := HL.out; omega), by omega⟩
      case round =>
        clear e0 e1 HS HL hzr
        obtain ⟨k, ts2, q3, hk, rfl, HS, HL, hq3⟩ := hrel
        have hzr := HS.out.mv.size
        obtain ⟨e0, e1, hrs⟩ := HKP.out wr HS.out.mv
        obtain ⟨bb, oo, rv, hva, hbb, hrc, hrus⟩ := hrs.at HCS.out
        subst hva
        obtain ⟨ra, rcap, hrv, -, -⟩ := hrus.form
        rw [HRN.out] at hrv
        subst hrv
        obtain ⟨ta, tc, htv⟩ := HS.out.o.form
        obtain ⟨tn, htn⟩ : ∃ tn, ts2.length = tn := ⟨_, rfl⟩
        rw [htn] at htv
        subst htv
        have HTN := Lib.hid htn
        have hrd := HS.out.rd
        clear hrs hrus htn
        by_cases hkn : k < rn
        · have j1 : (k : Int) < (rn : Int) := by omega
          have j2 : (0 : Int) ≤ (k : Int) := by omega
          go_wp2_with fail
          refine (pick_any R bs _ _ _ hrd (by omega) (by omega)).mono ?_
          rintro e w5 ⟨x5, rfl, x50, x51, -, hr5, hm5⟩
          have HS5 := Lib.hid (HS.out.mv' (by omega) hRl hr5 hm5)
          have hz5 := HS5.out.mv.size
          clear hr5 hm5 x51 e0 e1 hrc HS hrd
          by_cases hx : x5 = 0
          · subst hx
            obtain ⟨e0, e1, hrs⟩ := HKP.out w5 HS5.out.mv
            obtain ⟨b', o', rv, he, hbb', hrc, hrus⟩ := hrs.at HCS.out
            cases he
            obtain ⟨ra', rcap', hrv, -, -⟩ := hrus.form
            obtain ⟨r, hr⟩ : ∃ r, rs[k]? = some r := ⟨_, List.getElem?_eq_getElem (by rw [HRN.out]; exact hkn)⟩
            rw [HRN.out] at hrv
            subst hrv
            obtain ⟨b9, o9, tv9, hra, hb9, t0, -, -, hts⟩ := hrus.at hr
            subst hra
            obtain ⟨ta9, tc9, htv9, -, -⟩ := hts.form
            have h7 : r.ts.length ≤ 7 := (HRL.out.2.1 r (List.mem_of_getElem? hr)).1
            obtain ⟨v6, w6, hrun, ho6, hb6⟩ := HS5.out.o.more 32 hts.z (by have := HL.out; omega) (by omega)
            have HL6 := Lib.hid (show (ts2 ++ r.ts).length ≤ 70 * c + 7 * (k + 1) by rw [List.length_append]; have := HL.out; omega)
            have HS6 := Lib.hid (show CaS R bs W.heap.size w2.heap.size W2 (.slice (some ⟨bb, oo, none⟩) nn vc) cs w6 v6 (ts2 ++ r.ts) (q3 + 1) from ⟨HS5.out.rd.up (hb6.mono (by omega)), ho6, HS5.out.mv.trans (Mv.of_below hb6)⟩)
            obtain ⟨t9, ht9⟩ : ∃ t9, r.ts.length = t9 := ⟨_, rfl⟩
            rw [ht9] at htv9
            subst htv9
            clear hrs hrus hr hts ho6 hb6 ht9 h7
            go_wp2_with (at_builtin; refine wpList_append_run rfl _ _ 32 rfl rfl rfl hrun ?_)
            go_roundw
            case rel => exact ⟨k + 1, _, q3 + 1, by omega, by go_num, HS6, HL6, by omega⟩
            case measure => simp [intOf]; omega
          · have hx' : (x5 == 0) = false := by simpa using hx
            have HL6 := Lib.hid (show ts2.length ≤ 70 * c + 7 * (k + 1) by have := HL.out; omega)
            go_wp2
            go_roundw
            case rel => exact ⟨k + 1, ts2, q3 + 1, by omega, by go_num, HS5, HL6, by omega⟩
            case measure => simp [intOf]; omega
        · have j1 : ¬ (k : Int) < (rn : Int) := by omega
          have HL6 := Lib.hid (show ts2.length ≤ 70 * (c + 1) by have := HL.out; omega)
          go_wp2
          go_roundw
          case rel => exact ⟨c + 1, ts2, q3, by omega, by go_num, HS, HL6, by omega⟩
          case measure => simp [intOf]; omega
    · have i1 : ¬ (c : Int) < (nn : Int) := by omega
      have hcc : c ≤ 3 := by omega
      obtain ⟨ta, tc, htv⟩ := HS.out.o.form
      have hlen : ts.length ≤ 210 := by have := HL.out; omega
      have HTS := Lib.hid (show TsR R wr _ ts from SlFr.mono (OwnSl.fr (sz := 4) (enc := Te.enc) (fun _ => rfl) HS.out.o) (by omega))
      obtain ⟨tn, htn⟩ : ∃ tn, ts.length = tn := ⟨_, rfl⟩
      rw [htn] at htv hlen
      subst htv
      have HTN := Lib.hid htn
      have hrd := HS.out.rd
      have hlC : w2.heap.size < wr.heap.size := by omega
      obtain ⟨hA0, hA1, hAF, hB4⟩ := HA9.out
      have hMW := HM2.out.trans (HS.out.mv.mono (by omega))
      have hAl : w.heap.size < wr.heap.size := by omega
      have a0 := (mvC hMW w.heap.size (by omega) (by omega) 0).trans hA0
      have a1 := (mvC hMW w.heap.size (by omega) (by omega) 1).trans hA1
      have af := fun j => (mvF hMW w.heap.size (by omega) (by omega) j).trans (hAF j)
      have hb4 := hB4.mv hMW (by omega) (by omega)
      obtain ⟨hBl, b0, b1, b2, b3, bf⟩ := id hb4
      have HMW := Lib.hid ((Mv.of_below HAL.out).trans (hMW.mono (by omega)))
      have hRne : w2.heap.size ≠ R := by omega
      have hAR : w.heap.size ≠ R := by omega
      have hBR : w.heap.size + 1 ≠ R := by omega
      have hq6 : q ≤ 470000 := by omega
      clear htn hrs hA0 hA1 hAF hB4 hMW hb4
      go_wp2_with fail
      refine wp_region_two (CM R bs _ 13000 wr) (fun a b => Mv R a.heap.size a b) (bof [BIs (.agg #[.slice va nn vc, .bool acc]), BIs (.pointer (some ⟨R, 0, none⟩)), BIs (.slice ta tn tc), BIs (.int .i64 n), (BV (fun v => ∃ x : Pk, v = Pk.v x))]) (fun w' => ∃ wx q9, w' = (wx.setCell ⟨w.heap.size, 0, none⟩ (.slice va nn vc)).setCell ⟨w.heap.size, 1, none⟩ (.bool acc) ∧ RdAt R bs wx q9 ∧ q9 ≤ q + 13000 * 7 ∧ Mv R wr.heap.size wr wx) (fun w' => ∃ wx q9, ∃ x : Pk, w' = (((((wx.setCell ⟨w.heap.size, 0, none⟩ (.slice va nn vc)).setCell ⟨w.heap.size, 1, none⟩ (.bool acc)).setCell ⟨w.heap.size + 1, 0, none⟩ (.int .i64 x.from_)).setCell ⟨w.heap.size + 1, 1, none⟩ (.int .i64 x.to_)).setCell ⟨w.heap.size + 1, 2, none⟩ (.int .i64 x.port)).setCell ⟨w.heap.size + 1, 3, none⟩ (.int .i64 x.proto) ∧ RdAt R bs wx q9 ∧ q9 ≤ q + 13000 * 7 ∧ Mv R wr.heap.size wr wx) 5 (by kernel_rfl) rfl (fun u => by simp only [frU, Act.put, List.setIfInBounds_toArray, List.set_cons_succ, List.set_cons_zero, Nat.zero_add, Nat.reduceAdd]; exact rfl) (by kernel_rfl) (by kernel_rfl) (fun iz wz wy vz hbz hz => bof_mst [BIs (.agg #[.slice va nn vc, .bool acc]), BIs (.pointer (some ⟨R, 0, none⟩)), BIs (.slice ta tn tc), BIs (.int .i64 n), (BV (fun v => ∃ x : Pk, v = Pk.v x))] ⟨mst_is _, mst_is _, mst_is _, mst_is _, (mst_v _), trivial⟩ iz wz wy vz hbz hz) (CM.start hrd) ?_ ?_; (exact ⟨stSm rfl (fun m u w3 hm hC hd Q K hK => by (obtain ⟨q3, hr3, hq3, hM⟩ := id hC; have z0 := (mvC hM w2.heap.size hlC hRne 0).trans e0; have z1 := (mvC hM w2.heap.size hlC hRne 1).trans e1; go_step; exact hK _ _ rfl hC.same (Mv.refl _ _ _) rfl)), stSm rfl (fun m u w3 hm hC hd Q K hK => by (go_step; exact hK _ _ rfl hC.same (Mv.refl _ _ _) rfl)), stSm rfl (fun m u w3 hm hC hd Q K hK => by (go_step; exact hK _ _ rfl hC.same (Mv.refl _ _ _) rfl)), stSm rfl (fun m u w3 hm hC hd Q K hK => by (go_step; exact hK _ _ rfl hC.same (Mv.refl _ _ _) rfl)), stSm rfl (fun m u w3 hm hC hd Q K hK => by (have hu := bis (w := w3) (hd 1 rfl); rw [hu] at hK ⊢; clear hu; have hu := bis (w := w3) (hd 2 rfl); rw [hu] at hK ⊢; clear hu; have hu := bis (w := w3) (hd 3 rfl); rw [hu] at hK ⊢; clear hu; obtain ⟨q3, hr3, hq3, hM⟩ := id hC; go_step; refine (drawNear_all R bs q3 n ts (.slice ta tn tc) w3 hr3 (by omega) (by omega) (by omega) (HTS.out.mv hM) (by rw [HTN.out]; omega)).mono ?_; rintro e w5 ⟨x5, q5, rfl, hr5, hq5, hm5⟩; exact hK _ _ rfl (hC.mv hr5 (by rw [HTN.out] at hq5; omega) hm5) hm5 ⟨x5, rfl⟩)), ⟨rfl, fun m u w3 hm hC hd Q K hK => by (dsimp only at hK ⊢; have hu := bis (w := w3) (hd 0 rfl); rw [hu] at hK ⊢; clear hu; obtain ⟨q3, hr3, hq3, hM⟩ := id hC; have z0 := (mvC hM w.heap.size hAl hAR 0).trans a0; have z1 := (mvC hM w.heap.size hAl hAR 1).trans a1; have y0 := (mvF hM w.heap.size hAl hAR 0).trans (af 0); have y1 := (mvF hM w.heap.size hAl hAR 1).trans (af 1);  go_step; exact hK _ _ rfl ⟨w3, q3, rfl, hr3, by omega, hM⟩)⟩, ⟨rfl, fun u w3 hD hV Q K hK => by (dsimp only at hK ⊢; obtain ⟨-, ⟨⟨xa, xb, xc, xd⟩, hu⟩⟩ := hV 4 rfl (by decide); rw [hu] at hK ⊢; clear hu; obtain ⟨wx, q9, hwx, hr9, hq9, hm9⟩ := hD; subst hwx; have z0 := (mvC hm9 (w.heap.size + 1) hBl hBR 0).trans b0; have z1 := (mvC hm9 (w.heap.size + 1) hBl hBR 1).trans b1; have z2 := (mvC hm9 (w.heap.size + 1) hBl hBR 2).trans b2; have z3 := (mvC hm9 (w.heap.size + 1) hBl hBR 3).trans b3; have y0 := (mvF hm9 (w.heap.size + 1) hBl hBR 0).trans (bf 0); have y1 := (mvF hm9 (w.heap.size + 1) hBl hBR 1).trans (bf 1); have y2 := (mvF hm9 (w.heap.size + 1) hBl hBR 2).trans (bf 2); have y3 := (mvF hm9 (w.heap.size + 1) hBl hBR 3).trans (bf 3);  go_step; exact hK _ _ rfl ⟨wx, q9, ⟨xa, xb, xc, xd⟩, rfl, hr9, hq9, hm9⟩)⟩⟩); intro u w9 hD
      obtain ⟨wx, q9, ⟨xa, xb, xc, xd⟩, hw9, hr9, hq9, hm9⟩ := hD
      subst hw9
      have d0 := (mvC hm9 w.heap.size hAl hAR 0).trans a0
      have d1 := (mvC hm9 w.heap.size hAl hAR 1).trans a1
      have d2 := (mvC hm9 (w.heap.size + 1) hBl hBR 0).trans b0
      have d3 := (mvC hm9 (w.heap.size + 1) hBl hBR 1).trans b1
      have d4 := (mvC hm9 (w.heap.size + 1) hBl hBR 2).trans b2
      have d5 := (mvC hm9 (w.heap.size + 1) hBl hBR 3).trans b3
      have hbw : Below w.heap.size wx ((((((wx.setCell ⟨w.heap.size, 0, none⟩ (.slice va nn vc)).setCell ⟨w.heap.size, 1, none⟩ (.bool acc)).setCell ⟨w.heap.size + 1, 0, none⟩ (.int .i64 xa)).setCell ⟨w.heap.size + 1, 1, none⟩ (.int .i64 xb)).setCell ⟨w.heap.size + 1, 2, none⟩ (.int .i64 xc)).setCell ⟨w.heap.size + 1, 3, none⟩ (.int .i64 xd)) := by (repeat' (first | with_reducible exact Below.refl _ _ | with_reducible assumption | with_reducible refine Below.setCell ?_ ?_ _ | with_reducible refine Below.alloc ?_ ?_ _ | with_reducible refine Below.drew ?_ | with_reducible refine belDrewN ?_ _ | with_reducible refine Below.trans ?_ (Below.mono (by assumption) ?_) | omega | (simp; omega) | (simp; done)))
      obtain ⟨-, -, hrs9⟩ := HKP.out wx (HS.out.mv.trans (hm9.mono (by omega)))
      have HD := Lib.hid (show DrawnCa R bs p w (.returned (.tuple #[.agg #[.slice va nn vc, .bool acc], Pk.v ⟨xa, xb, xc, xd⟩])) _ from ⟨_, cs, acc, ⟨xa, xb, xc, xd⟩, q9, rfl, (hrs9.keep (w' := ((((((wx.setCell ⟨w.heap.size, 0, none⟩ (.slice va nn vc)).setCell ⟨w.heap.size, 1, none⟩ (.bool acc)).setCell ⟨w.heap.size + 1, 0, none⟩ (.int .i64 xa)).setCell ⟨w.heap.size + 1, 1, none⟩ (.int .i64 xb)).setCell ⟨w.heap.size + 1, 2, none⟩ (.int .i64 xc)).setCell ⟨w.heap.size + 1, 3, none⟩ (.int .i64 xd))) ⟨by simp, fun k k1 _ => by
        rw [Below.heap_setCell _ _ _ _ (by simp only; omega), Below.heap_setCell _ _ _ _ (by simp only; omega), Below.heap_setCell _ _ _ _ (by simp only; omega), Below.heap_setCell _ _ _ _ (by simp only; omega), Below.heap_setCell _ _ _ _ (by simp only; omega), Below.heap_setCell _ _ _ _ (by simp only; omega)]⟩).mono (by omega), by rw [HNN.out]; exact hl2, HK.out, hr9.up (hbw.mono (by omega)), by omega, (HMW.out.trans (hm9.mono (by omega))).trans (Mv.of_below hbw)⟩)
      clear hrs9 hbw hm9 hr9
      go_wp2_with fail
      refine bodyPost_ret (v := .tuple #[.agg #[.slice va nn vc, .bool acc], Pk.v ⟨xa, xb, xc, xd⟩]) (by simp [results, Tryd.results12, go_sem, d0, d1, d2, d3, d4, d5]) rfl ?_
      exact HD.out
def DrewCa (w : World) (e : Ending) (w' : World) : Prop := ∃ v cs acc x, e = .returned (.tuple #[.agg #[v, .bool acc], Pk.v x]) ∧ Rss w.heap.size w' v cs ∧ cs.length ≤ 3 ∧ RcOk cs ∧ Below w.heap.size w w'
set_option maxHeartbeats 2000000 in
set_option maxRecDepth 100000 in
theorem drawJ_any (bs : List Int) (v : Value) (w : World) (h : CodeAt w v bs) : Calls Tryd.prog 4 #[v] w (DrewCa w) := by
  obtain ⟨W, hW⟩ : ∃ W, (w.alloc (.cells #[.slice none 0 0, .bool false] 25)).alloc (.cells #[.int .i64 0, .int .i64 0, .int .i64 0, .int .i64 0] 27) = W := ⟨_, rfl⟩
  have hal : Below w.heap.size w W := by rw [← hW]; (repeat' (first | with_reducible exact Below.refl _ _ | with_reducible assumption | with_reducible refine Below.setCell ?_ ?_ _ | with_reducible refine Below.alloc ?_ ?_ _ | with_reducible refine Below.drew ?_ | with_reducible refine belDrewN ?_ _ | with_reducible refine Below.trans ?_ (Below.mono (by assumption) ?_) | omega | (simp; omega) | (simp; done)))
  have hzW : W.heap.size = w.heap.size + 2 := by rw [← hW]; simp
  have HA := alloc2_cells w #[.slice none 0 0, .bool false] #[.int .i64 0, .int .i64 0, .int .i64 0, .int .i64 0] 25 27
  rw [hW] at HA
  have A0 : W.cell? ⟨w.heap.size, 0, none⟩ = some (.slice none 0 0) := (HA.1 0).1
  have A1 : W.cell? ⟨w.heap.size, 1, none⟩ = some (.bool false) := (HA.1 1).1
  have AF : ∀ j, W.frozen? ⟨w.heap.size, j, none⟩ = false := fun j => (HA.1 j).2
  have hB4 : Box4 W (w.heap.size + 1) 0 0 0 0 := ⟨by omega, (HA.2 0).1, (HA.2 1).1, (HA.2 2).1, (HA.2 3).1, fun j => (HA.2 j).2⟩
  have h' : CodeAt W v bs := ⟨h.1.below hal, h.2⟩
  clear HA h
  go_enter Tryd.func4, Tryd.ntmps4
  go_wp2_with fail
  refine (open_any bs _ _ h').mono ?_
  rintro e w1 ⟨R, bs', rfl, hR, hr1, hb1⟩
  have hz1 := hb1.size
  have hRlt := hr1.lt
  clear hW
  go_wp2_with fail
  refine (drawCa_any R bs' 0 20 (by omega) _ hr1 (by omega)).mono ?_
  rintro e w2 ⟨v2, cs, acc, ⟨xa, xb, xc, xd⟩, q2, rfl, hs2, hl2, hk2, hr2, hq2, hm2⟩
  have hz2 := hm2.size
  have hB : Below W.heap.size W w2 := hb1.trans (hm2.below (by omega) hR)
  have c0 := (hB.cell (p := ⟨w.heap.size, 0, none⟩) (by simp only; omega)).trans A0
  have c1 := (hB.cell (p := ⟨w.heap.size, 1, none⟩) (by simp only; omega)).trans A1
  have f0 := (hB.frozen (p := ⟨w.heap.size, 0, none⟩) (by simp only; omega)).trans (AF 0)
  have f1 := (hB.frozen (p := ⟨w.heap.size, 1, none⟩) (by simp only; omega)).trans (AF 1)
  have hb4 := hB4.mv (R := W.heap.size) (Mv.of_below hB) (by omega) (by omega)
  obtain ⟨bl, b0, b1, b2, b3, bf⟩ := id hb4
  obtain ⟨va, vc, rfl, -, -⟩ := hs2.form
  obtain ⟨nn, hnn⟩ : ∃ nn, cs.length = nn := ⟨_, rfl⟩
  rw [hnn] at hs2 ⊢
  have hbw : Below w.heap.size w2 ((((((w2.setCell ⟨w.heap.size, 0, none⟩ (.slice va nn vc)).setCell ⟨w.heap.size, 1, none⟩ (.bool acc)).setCell ⟨w.heap.size + 1, 0, none⟩ (.int .i64 xa)).setCell ⟨w.heap.size + 1, 1, none⟩ (.int .i64 xb)).setCell ⟨w.heap.size + 1, 2, none⟩ (.int .i64 xc)).setCell ⟨w.heap.size + 1, 3, none⟩ (.int .i64 xd)) := by (repeat' (first | with_reducible exact Below.refl _ _ | with_reducible assumption | with_reducible refine Below.setCell ?_ ?_ _ | with_reducible refine Below.alloc ?_ ?_ _ | with_reducible refine Below.drew ?_ | with_reducible refine belDrewN ?_ _ | with_reducible refine Below.trans ?_ (Below.mono (by assumption) ?_) | omega | (simp; omega) | (simp; done)))
  have HD := Lib.hid (show DrewCa w (.returned (.tuple #[.agg #[.slice va nn vc, .bool acc], Pk.v ⟨xa, xb, xc, xd⟩])) _ from ⟨_, cs, acc, ⟨xa, xb, xc, xd⟩, rfl, (hs2.keep (w' := ((((((w2.setCell ⟨w.heap.size, 0, none⟩ (.slice va nn vc)).setCell ⟨w.heap.size, 1, none⟩ (.bool acc)).setCell ⟨w.heap.size + 1, 0, none⟩ (.int .i64 xa)).setCell ⟨w.heap.size + 1, 1, none⟩ (.int .i64 xb)).setCell ⟨w.heap.size + 1, 2, none⟩ (.int .i64 xc)).setCell ⟨w.heap.size + 1, 3, none⟩ (.int .i64 xd))) ⟨by simp, fun k k1 _ => by
    rw [Below.heap_setCell _ _ _ _ (by simp only; omega), Below.heap_setCell _ _ _ _ (by simp only; omega), Below.heap_setCell _ _ _ _ (by simp only; omega), Below.heap_setCell _ _ _ _ (by simp only; omega), Below.heap_setCell _ _ _ _ (by simp only; omega), Below.heap_setCell _ _ _ _ (by simp only; omega)]⟩).mono (by omega), hl2, hk2, (hal.trans (hB.mono (by omega))).trans hbw⟩)
  clear hs2 hk2 hr2 hm2 hB hbw hal hb1 hr1 A0 A1 AF hB4 hb4 h'
  go_wp2_with fail
  refine bodyPost_ret (v := .tuple #[.agg #[.slice va nn vc, .bool acc], Pk.v ⟨xa, xb, xc, xd⟩]) (by simp [results, Tryd.results4, go_sem, c0, c1, b0, b1, b2, b3]) rfl ?_
  exact HD.out
end Go.Proofs.YtfcbbahlhjdefaaDoor
