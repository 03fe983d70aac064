/- Boxes of rules in new blocks; the probed packet of many boxes; regions whose operations a guard leaves out. -/
import Derived.Test.YtajcogpfmpehkaaGreatDoorDxBT
import Derived.Test.YtajcogpfmpehkaaGreatDoorPaS
import Derived.Test.YtajcogpfmpehkaaGreatDoorDxAJ
import Derived.Test.YtajcogpfmpehkaaGreatDoorRgX
namespace Go.Proofs.YtajcogpfmpehkaaGreatDoor
open Go.RowKit
set_option maxHeartbeats 1000000 in
theorem implFB_lo {lo : Nat} (fs : List Ft) (v : Value) (w : World) (hs : Fts lo w v fs) (ht : Tab w) :
    Calls Tryz.prog 15 #[v] w fun e w' => ∃ v', e = .returned v' ∧ Bxs w.heap.size w' v' (fbx fs) ∧ Below w.heap.size w w' := by
  cases hv : fvalid fs
  · go_enter Tryz.func15, Tryz.ntmps15
    go_wp2_with fail
    refine (implFV_b hs ht hv).mono ?_
    rintro e w1 ⟨rfl, hb1⟩
    go_wp2
    go_ret
    refine ⟨_, rfl, ?_, hb1⟩
    rw [fbx, hv]
    exact ⟨[], ⟨none, 0, rfl, by simp, by simp, fun k x h => by simp at h⟩, All2.nil⟩
  · have HV := Lib.hid hv
    go_enter Tryz.func15, Tryz.ntmps15
    go_wp2_with fail
    refine (implFV_b hs ht hv).mono ?_
    rintro e w1 ⟨rfl, hb1⟩
    have hs1 := hs.below hb1
    go_wp2_with fail
    refine (flatsOf_any fs v _ hs1 (fvalid_four HV.out) (fvalid_len HV.out)).mono ?_
    rintro e w2 ⟨v2, rfl, ho2, hb2⟩
    have hw2 := hb1.trans (hb2.mono hb1.size)
    clear hb2
    go_wp2_with fail
    refine (wheres_any fs _ _ ho2 (fvalid_len HV.out)).mono ?_
    rintro e w3 ⟨v3, rfl, ho3, hb3⟩
    have hw3 := hw2.trans (hb3.mono hw2.size)
    clear hb3
    go_wp2_with fail
    refine (boxesOf_any (fboxes fs) _ _ ho3 (by have := fvalid_len HV.out; simp [fboxes]; omega) (fun k b hb j xs hx => ?_)).mono ?_
    · simp only [fboxes, List.getElem?_map, Option.map_eq_some_iff] at hb
      obtain ⟨f, hf, rfl⟩ := hb
      have := bvalid_lens (fvalid_at HV.out hf) j xs hx
      omega
    · rintro e w4 ⟨v4, rfl, ho4, hb4⟩
      have hw4 := hw3.trans (hb4.mono hw3.size)
      have HO4 := Lib.hid ho4
      clear ho4
      go_wp2
      go_ret
      refine ⟨_, rfl, ?_, hw4⟩
      rw [fbx, HV.out]
      exact HO4.out.bxs.mono hw3.size
theorem bx_cat {w1 w : World} {lo : Nat} {v vx : Value} {bs cs : List Bx} (ty : TypeId) (ho : BxX (fun _ => False) lo w1 v bs) (hb : Below w1.heap.size w1 w) (hc : Bxs w1.heap.size w vx cs) (hl : bs.length + cs.length ≤ 1000) (hlo : lo ≤ w1.heap.size) :
    ∃ v' w', (Builtin.append_ #[30, 30] ty #[v, vx]).run Tryz.prog w = .ok v' w' ∧ BxX (fun _ => False) lo w' v' (bs ++ cs) ∧ w.grownBy w' v.ownBlock ∧ (∀ z, v.ownBlock = some z → lo ≤ z) := by
  obtain ⟨i0, hi, hy0, hy1, hy2⟩ := info_parts infoBx
  have hown : ∀ z, v.ownBlock = some z → lo ≤ z ∧ z < w1.heap.size := fun z hz => by
    obtain ⟨vs, g1, _⟩ := ho
    exact World.ownsRow.lt g1 z hz
  have ho' := ho.below hb
  obtain ⟨vs, g1, g2⟩ := ho'
  obtain ⟨ws, g3, g4⟩ := hc
  have e1 := g2.1
  have e2 := g4.1
  have hc2 : All2 (fun r b => RwV (fun k => some k = v.ownBlock ∨ False) w r b) ws cs := g4.mono (fun _ _ g => RwV.high g (fun k hk => hk.elim (fun e => (hown k e.symm).2) (fun e => e.elim)))
  obtain ⟨v', w', hrun, hO, hgr, hat⟩ := own_append_all (sz := 1) (enc := enc1) (by omega) (fun _ => rfl) (P := Tryz.prog) (w := w) 30 ty 68 i0 _ 24 Tryz.underlying30 hi hy0 hy1 hy2 rfl (zs := ws) (fun u hu => by
    obtain ⟨r, hr, hu2⟩ := List.mem_flatMap.1 hu
    obtain ⟨k, hk⟩ := List.getElem?_of_mem hr
    obtain ⟨f, hf⟩ : ∃ f, cs[k]? = some f := ⟨_, List.getElem?_eq_getElem (by rw [← e2]; exact (List.getElem?_eq_some_iff.1 hk).1)⟩
    obtain ⟨a, c, he, -, -⟩ := (g4.2 k r f hk hf).form
    simp only [enc1, List.mem_cons, List.not_mem_nil, or_false] at hu2
    rw [hu2, he]; rfl) g1 g3.at (by omega) (by simp only [maxLen]; omega) (Nat.le_trans hlo hb.size)
  exact ⟨v', w', hrun, BxX.push (H := w.heap.size) g2 hc2 (grown_self hgr) hat (Nat.le_refl _) hO, hgr, fun z hz => (hown z hz).1⟩
set_option maxHeartbeats 4000000 in
set_option maxRecDepth 100000 in
theorem probe_big {lo : Nat} (bs : List Bx) (v : Value) (sd : Nat) (w : World) (hs : Bxs lo w v bs) (hsd : sd ≤ 1048576) (hb : bs.length ≤ 1000) (hb40 : ∀ (k : Nat) b, bs[k]? = some b → b.length ≤ 100 ∧ ∀ (j : Nat) xs, b[j]? = some xs → xs.length ≤ 1000) :
    Calls Tryz.prog 14 #[v, .int .i64 sd] w fun e w' => ∃ x : Pk, e = .returned (Pk.v x) ∧ Below w.heap.size w w' := by
  obtain ⟨a, cap, rfl, hlc, hcm⟩ := hs.form
  unfold maxLen at hcm
  generalize hnn : bs.length = n at *
  have HN := Lib.hid hnn
  clear hnn
  obtain ⟨x0, hx0⟩ : ∃ x : Int, (sd : Int) % 65536 = x := ⟨_, rfl⟩
  go_enter Tryz.func14, Tryz.ntmps14
  go_wp2_with fail
  have h0 := Box4.new w 0 0 0 0 35
  have hS : PbSt w (((w.alloc (.cells #[.int .i64 0, .int .i64 0, .int .i64 0, .int .i64 0] 35)).alloc (.cells #[.int .i64 x0, .int .i64 ((sd : Int) / 3 % 65536), .int .i64 ((sd : Int) % 256), .int .i64 ((sd : Int) % 8)] 35)).alloc (.cells #[.int .i64 x0, .int .i64 ((sd : Int) / 3 % 65536), .int .i64 ((sd : Int) % 256), .int .i64 ((sd : Int) % 8)] 3)) := by
    refine ⟨⟨x0, (sd : Int) / 3 % 65536, (sd : Int) % 256, (sd : Int) % 8, ?_⟩, (h0.old _).old _, by (repeat' (first | with_reducible exact Below.refl _ _ | with_reducible assumption | with_reducible refine Below.setCell ?_ ?_ _ | with_reducible refine Below.alloc ?_ ?_ _ | with_reducible refine Below.drew ?_ | with_reducible refine belDrewN ?_ _ | with_reducible refine Below.trans ?_ (Below.mono (by assumption) ?_) | omega | (simp; omega) | (simp; done)))⟩
    have := Box4.new ((w.alloc (.cells #[.int .i64 0, .int .i64 0, .int .i64 0, .int .i64 0] 35)).alloc (.cells #[.int .i64 x0, .int .i64 ((sd : Int) / 3 % 65536), .int .i64 ((sd : Int) % 256), .int .i64 ((sd : Int) % 8)] 35)) x0 ((sd : Int) / 3 % 65536) ((sd : Int) % 256) ((sd : Int) % 8) 3
    simpa using this
  go_loopw [7] (fun i wr => ∃ k : Nat, k ≤ n ∧ i = .int .i64 k ∧ PbSt w wr) (fun i _ => n - (intOf i).toNat)
  case atStart => exact ⟨0, by omega, rfl, hS⟩
  case round =>
    clear hS h0
    obtain ⟨k, hk, rfl, hS⟩ := hrel
    by_cases hlt : k < n
    · have i1 : (k : Int) < (n : Int) := by omega
      have i2 : (0 : Int) ≤ (k : Int) := by omega
      go_wp2_with fail
      go_loopw [8] (fun i wi => ∃ j : Nat, j ≤ 4 ∧ i = .int .i64 j ∧ PbSt w wi) (fun i _ => 4 - (intOf i).toNat)
      case atStart => exact ⟨0, by omega, rfl, hS⟩
      case round =>
        clear hS
        obtain ⟨j, hj, rfl, hS⟩ := hrel
        by_cases hj4 : j < 4
        · obtain ⟨bx, hbx⟩ : ∃ bx, bs[k]? = some bx := ⟨_, List.getElem?_eq_getElem (by rw [HN.out]; exact hlt)⟩
          obtain ⟨hl1, hl2⟩ := hb40 k bx hbx
          obtain ⟨b', o, sv, rfl, hbl, c0, hsv⟩ := (hs.below hS.2.2).at hbx
          obtain ⟨sa, sc, rfl, hsl, hsm⟩ := hsv.form
          unfold maxLen at hsm
          generalize hmm : bx.length = m at *
          have HM := Lib.hid hmm
          have j1 : (j : Int) < 4 := by omega
          have j2 : (0 : Int) ≤ (j : Int) := by omega
          clear hmm hbx
          by_cases hjm : j < m
          · have j3 : (j : Int) < (m : Int) := by omega
            obtain ⟨xs, hx⟩ : ∃ xs, bx[j]? = some xs := ⟨_, List.getElem?_eq_getElem (by rw [HM.out]; exact hjm)⟩
            have hl3 := hl2 j xs hx
            obtain ⟨b2, o2, sv2, rfl, hbl2, d0, hsv2⟩ := hsv.at hx
            obtain ⟨ta, tc, rfl, htl, htm⟩ := hsv2.form
            unfold maxLen at htm
            generalize hll : xs.length = L at *
            have HL := Lib.hid hll
            clear hll hx hsv
            by_cases hL0 : L = 0
            · subst hL0
              go_wp2
              go_roundw
              case rel => exact ⟨j + 1, by omega, by go_num, hS⟩
              case measure => simp [intOf]; omega
            · have hL0i : ((L : Int) == 0) = false := by simpa using hL0
              by_cases h3 : ((sd : Int) + (k : Int) + (j : Int)) % 3 = 0
              · go_wp2
                go_roundw
                case rel => exact ⟨j + 1, by omega, by go_num, hS⟩
                case measure => simp [intOf]; omega
              · have h3b : (((sd : Int) + (k : Int) + (j : Int)) % 3 == 0) = false := by simpa using h3
                obtain ⟨mm, hmm⟩ := Int.eq_ofNat_of_zero_le (Int.emod_nonneg ((sd : Int) + (j : Int)) (by omega : (L : Int) ≠ 0))
                have hml := Int.emod_lt_of_pos ((sd : Int) + (j : Int)) (by omega : (0 : Int) < (L : Int))
                rw [hmm] at hml
                obtain ⟨sb, so, f1, f2, rfl, hsbl, -, s0, s1⟩ := hsv2.at (k := mm) (by rw [HL.out]; omega)
                clear hsv2
                have hS2 := Lib.hid (hS.al (.cells #[.int .i64 f1, .int .i64 f2] 60))
                obtain ⟨⟨c, hc⟩, hcf, hVl⟩ := hS.get hj4
                have hT := Lib.hid hS
                clear hS hS2
                by_cases h2 : ((sd : Int) + (k : Int)) % 2 = 0
                · have h2b : (((sd : Int) + (k : Int)) % 2 == 0) = true := by simpa using h2
                  go_wp2
                  go_roundw
                  case rel => exact ⟨j + 1, by omega, by go_num, ((hT.out.put hj4 f1).put hj4 f2).al _⟩
                  case measure => simp [intOf]; omega
                · have h2b : (((sd : Int) + (k : Int)) % 2 == 0) = false := by simpa using h2
                  go_wp2
                  go_roundw
                  case rel => exact ⟨j + 1, by omega, by go_num, (hT.out.put hj4 f1).al _⟩
                  case measure => simp [intOf]; omega
          · have j3 : ¬ (j : Int) < (m : Int) := by omega
            go_wp2
            go_roundw
            case rel => exact ⟨k + 1, by omega, by go_num, hS⟩
            case measure => simp [intOf]; omega
        · have j1 : ¬ (j : Int) < 4 := by omega
          go_wp2
          go_roundw
          case rel => exact ⟨k + 1, by omega, by go_num, hS⟩
          case measure => simp [intOf]; omega
    · have hkn : k = n := by omega
      obtain ⟨⟨u0, u1, u2, u3, V⟩, A, hB⟩ := hS
      obtain ⟨l0, c0, c1, c2, c3, cf⟩ := id V
      obtain ⟨a0, d0, d1, d2, d3, df⟩ := id A
      go_wp2_with fail
      clear V A
      go_region
      all_goals
        go_wp2_with fail
        exact bodyPost_ret (v := .agg #[.int .i64 u0, .int .i64 u1, .int .i64 u2, .int .i64 u3]) (by simp [results, Tryz.results14, go_sem, d0, d1, d2, d3]) rfl ⟨⟨u0, u1, u2, u3⟩, rfl, by (repeat' (first | with_reducible exact Below.refl _ _ | with_reducible assumption | with_reducible refine Below.setCell ?_ ?_ _ | with_reducible refine Below.alloc ?_ ?_ _ | with_reducible refine Below.drew ?_ | with_reducible refine belDrewN ?_ _ | with_reducible refine Below.trans ?_ (Below.mono (by assumption) ?_) | omega | (simp; omega) | (simp; done)))⟩
section
variable (P : Program) (l : List Oper) (W : World) (Fs : List (World → Value → Prop)) (fr : (Nat → Value) → Act)
def StepH (i : Nat) (o : Oper) : Prop :=
  ∀ (u : Nat → Value) (w : World), Below W.heap.size W w → (∀ j, depOn o j = true → bof Fs j w (u j)) → (Region.wanted o (yielded l.toArray (fr u).tmps) = true ∧
    ∀ (Q : Exit → Act → World → Prop) (K : Act → World → Prop), (∀ a' w', a' = (fr u).put o.dst (slotOf o.dst a') → Below w.heap.size w w' → bof Fs i w' (slotOf o.dst a') → K a' w') → o.wp P (fr u) w K Q) ∨
    (Region.wanted o (yielded l.toArray (fr u).tmps) = false ∧ bof Fs i w undef)
def StepsH : List Oper → Nat → Prop
  | [], _ => True
  | o :: r, i => StepH P l W Fs fr i o ∧ StepsH r (i + 1)
end
section
variable {P : Program} {l : List Oper} {W : World} {Fs : List (World → Value → Prop)} {fr : (Nat → Value) → Act}
theorem stepsH_ok {N : Nat} : ∀ (r : List Oper) (i : Nat), StepsH P l W Fs fr r i → StepsOk P l N (fun _ w => Below W.heap.size W w) (fun a b => Below a.heap.size a b) (bof Fs) fr r i
  | [], _, _ => trivial
  | _ :: r, i, h => ⟨fun _ u w _ hC hd => by
      rcases h.1 u w hC hd with ⟨h1, h2⟩ | ⟨h1, h2⟩
      · exact ⟨fun _ Q K hK => h2 Q K (fun a' w' ha hb hF => hK a' w' ha (hC.trans (hb.mono hC.size)) hb hF), fun hw => (by rw [h1] at hw; cases hw)⟩
      · exact ⟨fun hw => (by rw [h1] at hw; cases hw), fun _ => ⟨hC, Below.refl _ _, h2⟩⟩, stepsH_ok r (i + 1) h.2⟩
theorem wp_region_belH {id : Nat} {Q : Exit → Act → World → Prop} {a0 : Act} (Fs : List (World → Value → Prop)) (hm : P.follows .mixedOrders = true) (hfr : ∀ u, frU u l 0 a0 = fr u) (hd : (dstsApart l && depsBefore l 0) = true)
    (hst : BAll Fs) (hs : StepsH P l W Fs fr l 0)
    (hend : ∀ u w', Below W.heap.size W w' → (∀ i, i < l.length → bof Fs i w' (u i)) → Q .normal (fr u) w') : (Code.region id l.toArray true).wp P Q a0 W :=
  wp_region_rel (N := l.length) (fun _ w => Below W.heap.size W w) (fun a b => Below a.heap.size a b) (bof Fs) hm rfl hfr hd (fun i w w' v hb h => bof_stb Fs hst i w w' v hb h)
    ⟨rfl, rfl, rfl, Nat.le_refl _, fun _ _ => rfl⟩ (stepsH_ok l 0 hs) hend
theorem stH {i : Nat} {o : Oper}
    (h : ∀ (u : Nat → Value) (w : World), Below W.heap.size W w → (∀ j, depOn o j = true → bof Fs j w (u j)) → (Region.wanted o (yielded l.toArray (fr u).tmps) = true ∧
      ∀ (Q : Exit → Act → World → Prop) (K : Act → World → Prop), (∀ a' w', a' = (fr u).put o.dst (slotOf o.dst a') → Below w.heap.size w w' → bof Fs i w' (slotOf o.dst a') → K a' w') → o.wp P (fr u) w K Q) ∨
      (Region.wanted o (yielded l.toArray (fr u).tmps) = false ∧ bof Fs i w undef)) : StepH P l W Fs fr i o := h
end
end Go.Proofs.YtajcogpfmpehkaaGreatDoor
