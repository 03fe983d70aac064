/- The reference's judgement: the walk through a chain. -/
import Derived.Test.YtfcbbahlhjdefaaDoorSpT
import Derived.Test.YtfcbbahlhjdefaaDoorJwV
import Derived.Test.YtfcbbahlhjdefaaDoorQuW
import Derived.Deep.DeepCutAuto
namespace Go.Proofs.YtfcbbahlhjdefaaDoor
open Go.RowKit
def acode : Option Bool → Int
  | none => 5
  | some true => 1
  | some false => 2
/-- The list of visits that is handed down. -/
structure Vs (S O : Nat) (w : World) (ov : Value) (vs : List (Nat × Nat)) : Prop where
  s : S ≤ O
  lt : O < w.heap.size
  c : w.cell? ⟨O, 0, none⟩ = some ov
  f : ∀ j, w.frozen? ⟨O, j, none⟩ = false
  o : OwnSl S 77 2 encP w ov vs
  u : ov.ownBlock ≠ some O
theorem Vs.below {S O : Nat} {w w' : World} {ov : Value} {vs : List (Nat × Nat)} (h : Vs S O w ov vs) (hb : Below w.heap.size w w') : Vs S O w' ov vs :=
  ⟨h.s, Nat.lt_of_lt_of_le h.lt hb.size, (hb.cell (p := ⟨O, 0, none⟩) h.lt).trans h.c, fun j => (hb.frozen (p := ⟨O, j, none⟩) h.lt).trans (h.f j), h.o.kept hb, h.u⟩
theorem Vs.push {S O : Nat} {w : World} {ov : Value} {vs : List (Nat × Nat)} (h : Vs S O w ov vs) (ty : TypeId) (y : Nat × Nat) (hb : vs.length ≤ 100000) :
    ∃ v' w', (Builtin.append_ #[46, 46] ty #[ov, .slice (some ⟨w.heap.size, 0, none⟩) 1 1]).run Tryd.prog (w.alloc (.cells #[.int .i64 (y.1 : Int), .int .i64 (y.2 : Int)] 77)) = .ok v' w' ∧ w'.cell? ⟨O, 0, none⟩ = some ov ∧ w'.frozen? ⟨O, 0, none⟩ = false ∧ (∃ a n c, v' = .slice a n c) ∧ Vs S O (w'.setCell ⟨O, 0, none⟩ v') v' (vs ++ [y]) ∧ Tw O ov v' w (w'.setCell ⟨O, 0, none⟩ v') ∧ Below S w (w'.setCell ⟨O, 0, none⟩ v') := by
  obtain ⟨i0, hi, hy0, hy1, hy2⟩ := info_parts infoVi
  have hU := h.lt; have hS := h.s
  obtain ⟨V, hV⟩ : ∃ V, w.alloc (.cells #[.int .i64 (y.1 : Int), .int .i64 (y.2 : Int)] 77) = V := ⟨_, rfl⟩
  have hal : Below w.heap.size w V := by rw [← hV]; exact (Below.refl _ _).alloc (Nat.le_refl _) _
  have hx : SlAt 2 encP V (.slice (some ⟨w.heap.size, 0, none⟩) 1 1) [y] := by rw [← hV]; exact slP (by simp) (by simp) (by simp)
  have hzV : V.heap.size = w.heap.size + 1 := by rw [← hV]; simp
  rw [hV]
  have hV1 := h.below hal
  have hone : ∀ z ∈ [y].flatMap encP, z.oneCell' = true := fun z hz => by
    simp only [List.flatMap_cons, List.flatMap_nil, List.append_nil, encP, List.mem_cons, List.not_mem_nil, or_false] at hz
    rcases hz with rfl | rfl <;> rfl
  obtain ⟨v', w', hrun, hown, hgr, hat⟩ := own_append_all (sz := 2) (enc := encP) (by omega) (fun _ => rfl) (P := Tryd.prog) 46 ty 77 i0 _ 16 Tryd.underlying46 hi hy0 hy1 hy2 rfl hone hV1.o hx (by simp; omega) (by simp only [maxLen, List.length_cons, List.length_nil]; omega) (by omega)
  have hz := hgr.size
  have kU := hgr.block O hV1.lt (fun e => h.u e.symm)
  have cU := (World.cell?_of_block (a := ⟨O, 0, none⟩) kU).trans hV1.c
  have fU : ∀ j, w'.frozen? ⟨O, j, none⟩ = false := fun j => (World.frozen?_of_block (a := ⟨O, j, none⟩) kU).trans (hV1.f j)
  have hat2 : ∀ z, v'.ownBlock = some z → ov.ownBlock = some z ∨ V.heap.size ≤ z := fun z hz2 => (hat z hz2).imp id (fun e => by omega)
  have hk : ∀ k, k ≠ O → (w'.setCell ⟨O, 0, none⟩ v').heap[k]? = w'.heap[k]? := fun k hk => Below.heap_setCell _ _ _ _ hk
  have hvU : v'.ownBlock ≠ some O := fun e => by
    rcases hat2 O e with h1 | h1
    · exact h.u h1
    · omega
  have hform : ∃ a n c, v' = .slice a n c := by
    rcases OwnSl.form hown with ⟨h1, _⟩ | ⟨g, c, h1, _⟩
    · exact ⟨_, _, _, h1⟩
    · exact ⟨_, _, _, h1⟩
  refine ⟨v', w', hrun, cU, fU 0, hform, ⟨hS, by simp; omega, World.cell?_setCell_same' _ _ _ (by rw [cU]; rfl), fun j => by rw [World.frozen?_setCell]; exact fU j, OwnSl.keepB hown (fun z z1 _ _ => hk z (fun e => hvU (by rw [z1, e]))), hvU⟩, ⟨by simp; omega, fun k k1 k2 k3 => ⟨((hk k k2).trans (hgr.block k (by omega) k3)).trans (hal.block k k1), fun e => ?_⟩⟩, ?_⟩
  · rcases hat2 k e.symm with h1 | h1
    · exact k3 h1.symm
    · omega
  · exact (hal.mono (by omega)).trans (Below.setCell (p := ⟨O, 0, none⟩) ((Below.refl _ _).grown hgr (by omega) (fun z hz => (World.ownsRow.lt h.o z hz).1)) hS _)
def SwR (S O : Nat) (R : Option Bool) (ov : Value) (w : World) (e : Ending) (w' : World) : Prop := ∃ ov' vs', e = .returned (.int .i64 (acode R)) ∧ Vs S O w' ov' vs' ∧ vs'.length ≤ 200 ∧ Tw O ov ov' w w' ∧ Below S w w'
section
variable {rec : Nat → Option Bool} {p : Pk} {rs : List Ru} {k : Nat} {r : Ru}
theorem jgo_at (h : rs[k]? = some r) : jgo rec p (rs.drop k) = if thold r.ts p = false then jgo rec p (rs.drop (k + 1))
    else if r.act = 1 then some true
    else if r.act = 2 then some false
    else if r.act = 4 then none
    else if r.act = 3 then (match rec r.ch.toNat with
      | some b => some b
      | none => jgo rec p (rs.drop (k + 1)))
    else jgo rec p (rs.drop (k + 1)) := by
  have hl := (List.getElem?_eq_some_iff.1 h).1
  rw [List.drop_eq_getElem_cons hl, (List.getElem?_eq_some_iff.1 h).2]
  rfl
end
set_option maxHeartbeats 8000000 in
set_option maxRecDepth 100000 in
theorem l9Walk_any {lo : Nat} {cs : List (List Ru)} {acc : Bool} {va : Option Addr} {n vc : Nat} {a b c d : Int} {S : Nat} (w0 : World) (hn : cs.length = n) (hs : Rss lo w0 (.slice va n vc) cs) (hci : CallsIn cs) (hru : ∀ c r, r ∈ cs.getD c [] → r.ok = true) (hcl : ∀ c, (cs.getD c []).length ≤ 8) (hp : Pk.ok ⟨a, b, c, d⟩ = true) (hS : w0.heap.size ≤ S) :
    ∀ (f ch O : Nat) (ov : Value) (vs : List (Nat × Nat)) (w : World), Ht cs f ch → ch < n → Below w0.heap.size w0 w → Vs S O w ov vs → vs.length ≤ 200 →
      Calls Tryd.prog 17 #[.agg #[.slice va n vc, .bool acc], .int .i64 (ch : Int), .agg #[.int .i64 a, .int .i64 b, .int .i64 c, .int .i64 d], .pointer (some ⟨O, 0, none⟩)] w (SwR S O (jwalk cs ⟨a, b, c, d⟩ f ch) ov w)
  | 0, _, _, _, _, _, h, _, _, _, _ => h.elim
  | f + 1, ch, O, ov, vs, w, hH, hch, hb0, hvs, hl2 => by
    have HIH := Lib.hid (fun ch O ov vs w => l9Walk_any (acc := acc) w0 hn hs hci hru hcl hp hS f ch O ov vs w)
    obtain ⟨W, hW⟩ : ∃ W, (w.alloc (.cells #[.slice va n vc, .bool acc] 25)).alloc (.cells #[.int .i64 a, .int .i64 b, .int .i64 c, .int .i64 d] 27) = W := ⟨_, rfl⟩
    have hal : Below w.heap.size w W := by rw [← hW]; (repeat' (first | with_reducible exact Below.refl _ _ | with_reducible assumption | with_reducible refine Below.setCell ?_ ?_ _ | with_reducible refine Below.alloc ?_ ?_ _ | with_reducible refine Below.drew ?_ | with_reducible refine belDrewN ?_ _ | with_reducible refine Below.trans ?_ (Below.mono (by assumption) ?_) | omega | (simp; omega) | (simp; done)))
    have hzW : w.heap.size + 1 < W.heap.size := by rw [← hW]; simp
    have HA := alloc2_cells w #[.slice va n vc, .bool acc] #[.int .i64 a, .int .i64 b, .int .i64 c, .int .i64 d] 25 27
    rw [hW] at HA
    have r0 : W.cell? ⟨w.heap.size, 0, none⟩ = some (.slice va n vc) := (HA.1 0).1
    have r1 : W.cell? ⟨w.heap.size, 1, none⟩ = some (.bool acc) := (HA.1 1).1
    have p0 : W.cell? ⟨w.heap.size + 1, 0, none⟩ = some (.int .i64 a) := (HA.2 0).1
    have p1 : W.cell? ⟨w.heap.size + 1, 1, none⟩ = some (.int .i64 b) := (HA.2 1).1
    have p2 : W.cell? ⟨w.heap.size + 1, 2, none⟩ = some (.int .i64 c) := (HA.2 2).1
    have p3 : W.cell? ⟨w.heap.size + 1, 3, none⟩ = some (.int .i64 d) := (HA.2 3).1
    have hOs := hvs.s
    have hOl := hvs.lt
    have hw0 : w0.heap.size ≤ w.heap.size := hb0.size
    have HVW := Lib.hid (hvs.below hal)
    have hovn : ∀ z, ov.ownBlock = some z → z < w.heap.size := fun z hz => (World.ownsRow.lt hvs.o z hz).2
    have HK := Lib.hid (show ∀ (w1 : World) (ov1 : Value), Tw O ov ov1 W w1 → w1.cell? ⟨w.heap.size, 0, none⟩ = some (.slice va n vc) ∧ w1.cell? ⟨w.heap.size, 1, none⟩ = some (.bool acc) ∧ w1.cell? ⟨w.heap.size + 1, 0, none⟩ = some (.int .i64 a) ∧ w1.cell? ⟨w.heap.size + 1, 1, none⟩ = some (.int .i64 b) ∧ w1.cell? ⟨w.heap.size + 1, 2, none⟩ = some (.int .i64 c) ∧ w1.cell? ⟨w.heap.size + 1, 3, none⟩ = some (.int .i64 d) from fun w1 ov1 ht => by
      have k0 : some w.heap.size ≠ ov.ownBlock := fun e => by have := hovn _ e.symm; omega
      have k1 : some (w.heap.size + 1) ≠ ov.ownBlock := fun e => by have := hovn _ e.symm; omega
      exact ⟨(ht.cell (p := ⟨w.heap.size, 0, none⟩) (by simp only; omega) (by simp only; omega) k0).trans r0, (ht.cell (p := ⟨w.heap.size, 1, none⟩) (by simp only; omega) (by simp only; omega) k0).trans r1, (ht.cell (p := ⟨w.heap.size + 1, 0, none⟩) hzW (by simp only; omega) k1).trans p0, (ht.cell (p := ⟨w.heap.size + 1, 1, none⟩) hzW (by simp only; omega) k1).trans p1, (ht.cell (p := ⟨w.heap.size + 1, 2, none⟩) hzW (by simp only; omega) k1).trans p2, (ht.cell (p := ⟨w.heap.size + 1, 3, none⟩) hzW (by simp only; omega) k1).trans p3⟩)
    obtain ⟨R, hR⟩ : ∃ R, jwalk cs ⟨a, b, c, d⟩ (f + 1) ch = R := ⟨_, rfl⟩
    obtain ⟨rs, hrs⟩ : ∃ rs, cs.getD ch [] = rs := ⟨_, rfl⟩
    have HR0 := Lib.hid (show jgo (jwalk cs ⟨a, b, c, d⟩ f) ⟨a, b, c, d⟩ (rs.drop 0) = R by rw [← hR, ← hrs]; rfl)
    have hL8 : rs.length ≤ 8 := by rw [← hrs]; exact hcl ch
    have hcs : cs[ch]? = some rs := by
      rw [List.getD_eq_getElem?_getD] at hrs
      rw [List.getElem?_eq_getElem (by rw [hn]; exact hch)] at hrs ⊢
      rw [← hrs]; rfl
    have HRS := Lib.hid hrs
    have HRU := Lib.hid (fun r (hr : r ∈ rs) => hru ch r (by rw [hrs]; exact hr))
    have HCI := Lib.hid (fun r (hr : r ∈ rs) (h3 : r.act = 3) => hci _ (by rw [← hrs] at hr; exact getD_mem hr) r (by rw [← hrs] at hr; rw [hrs] at hr ⊢; exact hr) h3)
    have HHT := Lib.hid (fun r (hr : r ∈ rs) (h3 : r.act = 3) => hH _ (mem_callsAt hru (by rw [hrs]; exact hr) h3))
    obtain ⟨bb, oo, rv, hva, hbb, hrc, hrus⟩ := hs.at hcs
    subst hva
    obtain ⟨ra, rcap, hrv, hrl, hrm⟩ := hrus.form
    unfold maxLen at hrm
    obtain ⟨rn, hrn⟩ : ∃ rn, rs.length = rn := ⟨_, rfl⟩
    rw [hrn] at hrv hrl hL8
    subst hrv
    have HRN := Lib.hid hrn
    have HRC := Lib.hid hrc
    have HRUS := Lib.hid hrus
    have HP := Lib.hid hp
    have HN := Lib.hid hn
    have HB0 := Lib.hid hb0
    have HAL := Lib.hid hal
    have HL2 := Lib.hid hl2
    have q1 : (ch : Int) < (n : Int) := by omega
    have q2 : (0 : Int) ≤ (ch : Int) := by omega
    rw [hR]
    clear HA hal hvs hb0 hH hR hrs hrn hcs hrc hrus hp hn hru hci hcl hs r0 r1 p0 p1 p2 p3 hl2
    go_enter Tryd.func17, Tryd.ntmps17
    go_wp2_with fail
    clear hW
    go_loopw [9] (fun i wr => ∃ (k : Nat) (ov1 : Value) (vs1 : List (Nat × Nat)), k ≤ rn ∧ i = .int .i64 k ∧ Hid (Vs S O wr ov1 vs1) ∧ Hid (vs1.length ≤ 200) ∧ Hid (Tw O ov ov1 W wr) ∧ Hid (Below S W wr) ∧ Hid (jgo (jwalk cs ⟨a, b, c, d⟩ f) ⟨a, b, c, d⟩ (rs.drop k) = R)) (fun i _ => rn - (intOf i).toNat)
    case atStart => exact ⟨0, ov, vs, by omega, rfl, HVW, HL2, Lib.hid (Tw.refl _ _ _), Lib.hid (Below.refl _ _), HR0⟩
    case round =>
      clear HVW HL2 HR0
      obtain ⟨k, ov1, vs1, hk, rfl, HV1, HL1, HT1, HB1, HR1⟩ := hrel
      have hzr := HT1.out.1
      have hbw : Below w0.heap.size w0 wr := (HB0.out.trans (HAL.out.mono hw0)).trans (HB1.out.mono hS)
      have hbbr : bb < wr.heap.size := by have := hbw.size; omega
      obtain ⟨k0, k1, u0, u1, u2, u3⟩ := HK.out wr ov1 HT1.out
      have rc1 := (hbw.cell (p := ⟨bb, oo + ch, none⟩) hbb).trans HRC.out
      have HBW := Lib.hid hbw
      clear hbw
      by_cases hkn : k < rn
      · have i1 : (k : Int) < (rn : Int) := by omega
        have i2 : (0 : Int) ≤ (k : Int) := by omega
        obtain ⟨r, hr⟩ : ∃ r, rs[k]? = some r := ⟨_, List.getElem?_eq_getElem (by rw [HRN.out]; exact hkn)⟩
        obtain ⟨b9, o9, tv, hra, hb9, t0, t1, t2, hts⟩ := HRUS.out.at hr
        subst hra
        obtain ⟨ta, tc, htv, -, -⟩ := hts.form
        obtain ⟨tn, htn⟩ : ∃ tn, r.ts.length = tn := ⟨_, rfl⟩
        rw [htn] at htv
        subst htv
        have e0 := (HBW.out.cell (p := ⟨b9, o9 + k * 3, none⟩) hb9).trans t0
        have e1 := (HBW.out.cell (p := ⟨b9, o9 + k * 3 + 1, none⟩) hb9).trans t1
        have e2 := (HBW.out.cell (p := ⟨b9, o9 + k * 3 + 2, none⟩) hb9).trans t2
        have hrm2 := List.mem_of_getElem? hr
        have hrok := HRU.out r hrm2
        have htv : tsvalid r.ts = true := by
          have h9 := hrok
          unfold Ru.ok at h9
          rw [Bool.and_eq_true, Bool.and_eq_true] at h9
          exact h9.1.1
        have HTV := Lib.hid htv
        have HJ := Lib.hid ((jgo_at (rec := jwalk cs ⟨a, b, c, d⟩ f) (p := ⟨a, b, c, d⟩) hr).symm.trans HR1.out)
        have HM := Lib.hid hrm2
        have HTS := Lib.hid hts
        obtain ⟨act, hact⟩ : ∃ act, r.act = act := ⟨_, rfl⟩
        obtain ⟨rch, hrch⟩ : ∃ rch, r.ch = rch := ⟨_, rfl⟩
        rw [hact] at e1
        rw [hrch] at e2
        have HACT := Lib.hid hact
        have HRCH := Lib.hid hrch
        obtain ⟨hh, hhh⟩ : ∃ hh, thold r.ts ⟨a, b, c, d⟩ = hh := ⟨_, rfl⟩
        have HH := Lib.hid hhh
        obtain ⟨V, hV⟩ : ∃ V, wr.alloc (.cells #[.slice ta tn tc, .int .i64 act, .int .i64 rch] 34) = V := ⟨_, rfl⟩
        have halV : Below wr.heap.size wr V := by rw [← hV]; exact (Below.refl _ _).alloc (Nat.le_refl _) _
        have l0 : V.cell? ⟨wr.heap.size, 0, none⟩ = some (.slice ta tn tc) := by rw [← hV]; simp
        have l1 : V.cell? ⟨wr.heap.size, 1, none⟩ = some (.int .i64 act) := by rw [← hV]; simp
        have l2 : V.cell? ⟨wr.heap.size, 2, none⟩ = some (.int .i64 rch) := by rw [← hV]; simp
        have hzV : wr.heap.size < V.heap.size := by rw [← hV]; simp
        have HVV := Lib.hid (HV1.out.below halV)
        have HTW := Lib.hid (HT1.out.trans (Tw.of halV))
        have hSr : S ≤ wr.heap.size := by have := HV1.out.s; have := HV1.out.lt; omega
        have HBV := Lib.hid (HB1.out.trans (halV.mono hSr))
        have HWV := Lib.hid (HBW.out.trans (halV.mono HBW.out.size))
        have v2 := (halV.cell (p := ⟨w.heap.size + 1, 0, none⟩) (by simp only; omega)).trans u0
        have v3 := (halV.cell (p := ⟨w.heap.size + 1, 1, none⟩) (by simp only; omega)).trans u1
        have v4 := (halV.cell (p := ⟨w.heap.size + 1, 2, none⟩) (by simp only; omega)).trans u2
        have v5 := (halV.cell (p := ⟨w.heap.size + 1, 3, none⟩) (by simp only; omega)).trans u3
        clear hr t0 t1 t2 hts hrm2 hrok htv hact hrch hhh halV htn
        go_wp2_with fail
        clear hV k0 k1 rc1 e0 e1 e2
        refine (specTsH_b V (HTS.out.below HWV.out) HTV.out HP.out HH.out).mono ?_
        rintro e w2 ⟨rfl, hb2⟩
        have HV2 := Lib.hid (HVV.out.below hb2)
        have HT2 := Lib.hid (HTW.out.trans (Tw.of hb2))
        have HB2 := Lib.hid (HBV.out.trans (hb2.mono (by omega)))
        have m1 := (hb2.cell (p := ⟨wr.heap.size, 1, none⟩) hzV).trans l1
        have m2 := (hb2.cell (p := ⟨wr.heap.size, 2, none⟩) hzV).trans l2
        have hz2 : wr.heap.size < w2.heap.size := Nat.lt_of_lt_of_le hzV hb2.size
        clear hb2 l0 l1 l2 v2 v3 v4 v5 u0 u1 u2 u3 HVV HTW HBV HWV
        cases hh
        · have HJ2 := Lib.hid (show jgo (jwalk cs ⟨a, b, c, d⟩ f) ⟨a, b, c, d⟩ (rs.drop (k + 1)) = R by
            have h9 := HJ.out
            rw [if_pos HH.out] at h9
            exact h9)
          go_wp2
          go_roundw
          case rel => exact ⟨k + 1, ov1, vs1, by omega, by go_num, HV2, HL1, HT2, HB2, HJ2⟩
          case measure => simp [intOf]; omega
        · have HJ1 := Lib.hid (show (if act = 1 then some true else if act = 2 then some false else if act = 4 then none else if act = 3 then (match jwalk cs ⟨a, b, c, d⟩ f rch.toNat with | some b => some b | none => jgo (jwalk cs ⟨a, b, c, d⟩ f) ⟨a, b, c, d⟩ (rs.drop (k + 1))) else jgo (jwalk cs ⟨a, b, c, d⟩ f) ⟨a, b, c, d⟩ (rs.drop (k + 1))) = R by
            have h9 := HJ.out
            rw [if_neg (by rw [HH.out]; simp), HACT.out, HRCH.out] at h9
            exact h9)
          clear HJ
          have c1 := HV2.out.c
          obtain ⟨ya, yn, yc, hvv, hyn⟩ : ∃ a n c, ov1 = Value.slice a n c ∧ n = vs1.length := by
            rcases OwnSl.form HV2.out.o with ⟨h1, h2⟩ | ⟨g, c, h1, _⟩
            · exact ⟨_, _, _, h1, by rw [h2]; rfl⟩
            · exact ⟨_, _, _, h1, rfl⟩
          subst hvv
          have HYN := Lib.hid hyn
          clear hyn
          go_upto_if 39 with (fail)
          go_cut [] (fun wx => ∃ (ov2 : Value) (vs2 : List (Nat × Nat)), Vs S O wx ov2 vs2 ∧ vs2.length ≤ 200 ∧ Tw O ov ov2 W wx ∧ Below S W wx ∧ wx.cell? ⟨wr.heap.size, 1, none⟩ = some (.int .i64 act) ∧ wx.cell? ⟨wr.heap.size, 2, none⟩ = some (.int .i64 rch))
          case first =>
            by_cases hv : yn < 200
            · have hvi : (yn : Int) < 200 := by omega
              have hb9 : vs1.length ≤ 100000 := by rw [← HYN.out]; omega
              have HL9 := Lib.hid (show (vs1 ++ [(ch, k)]).length ≤ 200 by rw [List.length_append, ← HYN.out]; simp; omega)
              obtain ⟨v5, w5, hrun, hc5, hf5, hfm5, hV5, hT5, hB5⟩ := HV2.out.push 46 (ch, k) hb9
              have HN1 := Lib.hid (show some wr.heap.size ≠ (Value.slice ya yn yc).ownBlock from fun e => by have := (World.ownsRow.lt HV1.out.o _ e.symm).2; omega)
              have hOr : wr.heap.size ≠ O := by have := HV1.out.lt; omega
              have n1 := (hT5.cell (p := ⟨wr.heap.size, 1, none⟩) hz2 hOr HN1.out).trans m1
              have n2 := (hT5.cell (p := ⟨wr.heap.size, 2, none⟩) hz2 hOr HN1.out).trans m2
              have HV5 := Lib.hid hV5
              have HT5 := Lib.hid (HT2.out.trans hT5)
              have HB5 := Lib.hid (HB2.out.trans hB5)
              have HNN := Lib.hid (And.intro n1 n2)
              obtain ⟨qa, qn, qc, hq5⟩ := hfm5
              subst hq5
              clear hV5 hT5 hB5 n1 n2 hb9
              go_wp2_with (at_builtin; refine wpList_append_run rfl _ _ 46 rfl rfl rfl hrun ?_)
              go_meet
              exact ⟨_, _, HV5.out, HL9.out, HT5.out, HB5.out, HNN.out.1, HNN.out.2⟩
            · have hvi : ¬ (yn : Int) < 200 := by omega
              go_wp2_with fail
              go_meet
              exact ⟨_, vs1, HV2.out, HL1.out, HT2.out, HB2.out, m1, m2⟩
          case rest =>
            clear HV2 HT2 HB2 HYN c1 m1 m2
            obtain ⟨ov2, vs2, hV2, hL2, hT2, hB2, m1, m2⟩ := hcut
            have HV2 := Lib.hid hV2
            have HL2 := Lib.hid hL2
            have HT2 := Lib.hid hT2
            have HB2 := Lib.hid hB2
            have HEND := Lib.hid (show ∀ (e : Int), acode R = e → SwR S O R ov w (.returned (.int .i64 e)) wc from fun e he => ⟨ov2, vs2, by rw [he], hV2, hL2, (Tw.of HAL.out).trans hT2, (HAL.out.mono (by omega)).trans hB2⟩)
            clear hV2 hL2 hT2 hB2
            by_cases h1 : act = 1
            · subst h1
              have HE := Lib.hid (show acode R = 1 by have h9 := HJ1.out; rw [if_pos rfl] at h9; rw [← h9]; rfl)
              go_wp2
              go_ret
              exact HEND.out 1 HE.out
            · by_cases h2 : act = 2
              · subst h2
                have HE := Lib.hid (show acode R = 2 by have h9 := HJ1.out; rw [if_neg (by decide), if_pos rfl] at h9; rw [← h9]; rfl)
                go_wp2
                go_ret
                exact HEND.out 2 HE.out
              · by_cases h4 : act = 4
                · subst h4
                  have HE := Lib.hid (show acode R = 5 by have h9 := HJ1.out; rw [if_neg (by decide), if_neg (by decide), if_pos rfl] at h9; rw [← h9]; rfl)
                  go_wp2
                  go_ret
                  exact HEND.out 5 HE.out
                · by_cases h3 : act = 3
                  · subst h3
                    have HJ2 := Lib.hid (show (match jwalk cs ⟨a, b, c, d⟩ f rch.toNat with | some b => some b | none => jgo (jwalk cs ⟨a, b, c, d⟩ f) ⟨a, b, c, d⟩ (rs.drop (k + 1))) = R by have h9 := HJ1.out; rw [if_neg (by decide), if_neg (by decide), if_neg (by decide), if_pos rfl] at h9; exact h9)
                    obtain ⟨g0, g5, gn⟩ := HCI.out r HM.out HACT.out
                    have hHt := HHT.out r HM.out HACT.out
                    rw [HRCH.out] at g0 gn hHt
                    obtain ⟨kc, rfl⟩ := Int.eq_ofNat_of_zero_le g0
                    have hkc : ((kc : Nat) : Int).toNat = kc := rfl
                    rw [hkc] at HJ2 hHt
                    have hkn2 : kc < n := by rw [HN.out] at gn; omega
                    obtain ⟨k0, k1, u0, u1, u2, u3⟩ := HK.out wc ov2 HT2.out
                    obtain ⟨R2, hR2⟩ : ∃ R2, jwalk cs ⟨a, b, c, d⟩ f kc = R2 := ⟨_, rfl⟩
                    rw [hR2] at HJ2
                    have hwc : Below w0.heap.size w0 wc := (HB0.out.trans (HAL.out.mono hw0)).trans (HB2.out.mono hS)
                    have HCALL := HIH.out kc O ov2 vs2 wc hHt hkn2 hwc HV2.out HL2.out
                    rw [hR2] at HCALL
                    have HCL := Lib.hid HCALL
                    clear g0 g5 gn hHt hR2 hwc HCALL HJ1
                    go_wp2_with fail
                    refine HCL.out.mono ?_
                    rintro e w6 ⟨ov6, vs6, rfl, hV6, hL6, hT6, hB6⟩
                    have HV6 := Lib.hid hV6
                    have HL6 := Lib.hid hL6
                    have HT6 := Lib.hid (HT2.out.trans hT6)
                    have HB6 := Lib.hid (HB2.out.trans hB6)
                    have HEN6 := Lib.hid (show ∀ (e : Int), acode R = e → SwR S O R ov w (.returned (.int .i64 e)) w6 from fun e he => ⟨ov6, vs6, by rw [he], hV6, hL6, (Tw.of HAL.out).trans (HT2.out.trans hT6), (HAL.out.mono (by omega)).trans (HB2.out.trans hB6)⟩)
                    clear hV6 hL6 hT6 hB6 k0 k1 u0 u1 u2 u3 HEND HCL
                    cases R2 with
                    | none =>
                      have HJ3 := Lib.hid (show jgo (jwalk cs ⟨a, b, c, d⟩ f) ⟨a, b, c, d⟩ (rs.drop (k + 1)) = R from HJ2.out)
                      have ha : acode none = 5 := rfl
                      rw [ha]
                      go_wp2
                      go_roundw
                      case rel => exact ⟨k + 1, ov6, vs6, by omega, by go_num, HV6, HL6, HT6, HB6, HJ3⟩
                      case measure => simp [intOf]; omega
                    | some x =>
                      have HJ3 := Lib.hid (show some x = R from HJ2.out)
                      cases x
                      · have HE := Lib.hid (show acode R = 2 by rw [← HJ3.out]; rfl)
                        have ha : acode (some false) = 2 := rfl
                        rw [ha]
                        go_wp2
                        go_ret
                        exact HEN6.out 2 HE.out
                      · have HE := Lib.hid (show acode R = 1 by rw [← HJ3.out]; rfl)
                        have ha : acode (some true) = 1 := rfl
                        rw [ha]
                        go_wp2
                        go_ret
                        exact HEN6.out 1 HE.out
                  · have HJ3 := Lib.hid (show jgo (jwalk cs ⟨a, b, c, d⟩ f) ⟨a, b, c, d⟩ (rs.drop (k + 1)) = R by have h9 := HJ1.out; rw [if_neg h1, if_neg h2, if_neg h4, if_neg h3] at h9; exact h9)
                    have f1 : (act == 1) = false := by simpa using h1
                    have f2 : (act == 2) = false := by simpa using h2
                    have f3 : (act == 3) = false := by simpa using h3
                    have f4 : (act == 4) = false := by simpa using h4
                    clear h1 h2 h3 h4 HJ1 HEND
                    go_wp2
                    go_roundw
                    case rel => exact ⟨k + 1, ov2, vs2, by omega, by go_num, HV2, HL2, HT2, HB2, HJ3⟩
                    case measure => simp [intOf]; omega
      · have HE := Lib.hid (show acode R = 5 by
          have h9 := HR1.out
          rw [List.drop_eq_nil_of_le (by rw [HRN.out]; omega)] at h9
          rw [← h9]; rfl)
        have i1 : ¬ (k : Int) < (rn : Int) := by omega
        have HEND := Lib.hid (show SwR S O R ov w (.returned (.int .i64 5)) wr from ⟨ov1, vs1, by rw [HE.out], HV1.out, HL1.out, (Tw.of HAL.out).trans HT1.out, (HAL.out.mono (by omega)).trans HB1.out⟩)
        go_wp2
        go_ret
        exact HEND.out
end Go.Proofs.YtfcbbahlhjdefaaDoor
