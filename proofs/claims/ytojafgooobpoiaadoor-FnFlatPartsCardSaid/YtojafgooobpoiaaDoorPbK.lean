/- The probed packet of valid boxes is valid. -/
import Derived.Test.YtojafgooobpoiaaDoorDxAJ
import Derived.Test.YtojafgooobpoiaaDoorMbMf
namespace Go.Proofs.YtojafgooobpoiaaDoor
open Go.RowKit
def ok4 (v0 v1 v2 v3 : Int) : Prop := (0 ≤ v0 ∧ v0 ≤ 65535) ∧ (0 ≤ v1 ∧ v1 ≤ 65535) ∧ (0 ≤ v2 ∧ v2 ≤ 255) ∧ 0 ≤ v3 ∧ v3 ≤ 7
theorem ok4_ok {a b c d : Int} (h : ok4 a b c d) : Pk.ok ⟨a, b, c, d⟩ = true := by
  unfold ok4 at h
  unfold Pk.ok
  simp only [Bool.and_eq_true, inB_iff]
  omega
theorem sgood_in {h : Int} : ∀ {m : Int} {xs : List Sp}, sgood h m xs = true → ∀ s ∈ xs, m ≤ s.lo ∧ s.lo ≤ s.hi ∧ s.hi ≤ h
  | _, [], _, s, hs => by cases hs
  | m, x :: xs, hg, s, hs => by
    simp only [sgood, Bool.and_eq_true, decide_eq_true_eq] at hg
    obtain ⟨⟨⟨h1, h2⟩, h3⟩, h4⟩ := hg
    rcases List.mem_cons.1 hs with rfl | hs
    · exact ⟨h1, h2, h3⟩
    · have := sgood_in h4 s hs
      omega
theorem bvalid_in {b : Bx} {n : Nat} {xs : List Sp} (hb : bvalid b = true) (hn : n < 4) (hx : b[n]? = some xs) : ∀ s ∈ xs, 0 ≤ s.lo ∧ s.lo ≤ top n ∧ 0 ≤ s.hi ∧ s.hi ≤ top n := fun s hs => by
  have h := bgood hb hn
  rw [List.getD_eq_getElem?_getD, hx] at h
  have := sgood_in h s hs
  omega
/-- The numbers of the probe in the making: four within their fields. -/
def PbSk (w wr : World) : Prop := (∃ v0 v1 v2 v3, Box4 wr (w.heap.size + 1 + 1) v0 v1 v2 v3 ∧ ok4 v0 v1 v2 v3) ∧ Box4 wr w.heap.size 0 0 0 0 ∧ Below w.heap.size w wr
theorem PbSk.al {w wr : World} (h : PbSk w wr) (o : Obj) : PbSk w (wr.alloc o) :=
  let ⟨⟨v0, v1, v2, v3, h1, hk⟩, h2, h3⟩ := h
  ⟨⟨v0, v1, v2, v3, h1.old o, hk⟩, h2.old o, h3.alloc h3.size o⟩
theorem PbSk.put {w wr : World} (h : PbSk w wr) {j : Nat} (hj : j < 4) (v : Int) (ha : 0 ≤ v) (hb : v ≤ top j) : PbSk w (wr.setCell ⟨w.heap.size + 1 + 1, j, none⟩ (.int .i64 v)) := by
  obtain ⟨⟨v0, v1, v2, v3, h1, k0, k1, k2, k3⟩, h2, h3⟩ := h
  refine ⟨?_, h2.far (by simp only; omega) _, h3.setCell (by simp only; omega) _⟩
  rcases (by omega : j = 0 ∨ j = 1 ∨ j = 2 ∨ j = 3) with rfl | rfl | rfl | rfl
  · exact ⟨_, _, _, _, (h1.set v).1, ⟨ha, hb⟩, k1, k2, k3⟩
  · exact ⟨_, _, _, _, (h1.set v).2.1, k0, ⟨ha, hb⟩, k2, k3⟩
  · exact ⟨_, _, _, _, (h1.set v).2.2.1, k0, k1, ⟨ha, hb⟩, k3⟩
  · exact ⟨_, _, _, _, (h1.set v).2.2.2, k0, k1, k2, ha, hb⟩
theorem PbSk.get {w wr : World} (h : PbSk w wr) {j : Nat} (hj : j < 4) : (∃ c : Int, wr.cell? ⟨w.heap.size + 1 + 1, j, none⟩ = some (.int .i64 c)) ∧ wr.frozen? ⟨w.heap.size + 1 + 1, j, none⟩ = false ∧ w.heap.size + 1 + 1 < wr.heap.size :=
  let ⟨⟨_, _, _, _, h1, _⟩, _, _⟩ := h
  ⟨h1.get hj, h1.frz j, h1.lt⟩
set_option maxHeartbeats 4000000 in
set_option maxRecDepth 100000 in
theorem probe_ok {lo : Nat} (bs : List Bx) (v : Value) (sd : Nat) (w : World) (hs : Bxs lo w v bs) (hsd : sd ≤ 1048576) (hb : bs.length ≤ 100) (hb40 : ∀ (k : Nat) b, bs[k]? = some b → b.length ≤ 100 ∧ ∀ (j : Nat) xs, b[j]? = some xs → xs.length ≤ 1000) (hv : ∀ (k : Nat) b, bs[k]? = some b → bvalid b = true) :
    Calls Tryd.prog 14 #[v, .int .i64 sd] w fun e w' => ∃ x : Pk, e = .returned (Pk.v x) ∧ x.ok = true ∧ Below w.heap.size w w' := by
  obtain ⟨a, cap, rfl, hlc, hcm⟩ := hs.form
  unfold maxLen at hcm
  generalize hnn : bs.length = n at *
  have HN := Lib.hid hnn
  clear hnn
  obtain ⟨x0, hx0⟩ : ∃ x : Int, (sd : Int) % 65536 = x := ⟨_, rfl⟩
  go_enter Tryd.func14, Tryd.ntmps14
  go_wp2_with fail
  have h0 := Box4.new w 0 0 0 0 30
  have hS : PbSk w (((w.alloc (.cells #[.int .i64 0, .int .i64 0, .int .i64 0, .int .i64 0] 30)).alloc (.cells #[.int .i64 x0, .int .i64 ((sd : Int) / 3 % 65536), .int .i64 ((sd : Int) % 256), .int .i64 ((sd : Int) % 8)] 30)).alloc (.cells #[.int .i64 x0, .int .i64 ((sd : Int) / 3 % 65536), .int .i64 ((sd : Int) % 256), .int .i64 ((sd : Int) % 8)] 3)) := by
    refine ⟨⟨x0, (sd : Int) / 3 % 65536, (sd : Int) % 256, (sd : Int) % 8, ?_, by unfold ok4; omega⟩, (h0.old _).old _, by (repeat' (first | with_reducible exact Below.refl _ _ | with_reducible assumption | with_reducible refine Below.setCell ?_ ?_ _ | with_reducible refine Below.alloc ?_ ?_ _ | with_reducible refine Below.drew ?_ | with_reducible refine belDrewN ?_ _ | with_reducible refine Below.trans ?_ (Below.mono (by assumption) ?_) | omega | (simp; omega) | (simp; done)))⟩
    have := Box4.new ((w.alloc (.cells #[.int .i64 0, .int .i64 0, .int .i64 0, .int .i64 0] 30)).alloc (.cells #[.int .i64 x0, .int .i64 ((sd : Int) / 3 % 65536), .int .i64 ((sd : Int) % 256), .int .i64 ((sd : Int) % 8)] 30)) x0 ((sd : Int) / 3 % 65536) ((sd : Int) % 256) ((sd : Int) % 8) 3
    simpa using this
  go_loopw [7] (fun i wr => ∃ k : Nat, k ≤ n ∧ i = .int .i64 k ∧ PbSk w wr) (fun i _ => n - (intOf i).toNat)
  case atStart => exact ⟨0, by omega, rfl, hS⟩
  case round =>
    clear hS h0
    obtain ⟨k, hk, rfl, hS⟩ := hrel
    by_cases hlt : k < n
    · have i1 : (k : Int) < (n : Int) := by omega
      have i2 : (0 : Int) ≤ (k : Int) := by omega
      go_wp2_with fail
      go_loopw [8] (fun i wi => ∃ j : Nat, j ≤ 4 ∧ i = .int .i64 j ∧ PbSk w wi) (fun i _ => 4 - (intOf i).toNat)
      case atStart => exact ⟨0, by omega, rfl, hS⟩
      case round =>
        clear hS
        obtain ⟨j, hj, rfl, hS⟩ := hrel
        by_cases hj4 : j < 4
        · obtain ⟨bx, hbx⟩ : ∃ bx, bs[k]? = some bx := ⟨_, List.getElem?_eq_getElem (by rw [HN.out]; exact hlt)⟩
          obtain ⟨hl1, hl2⟩ := hb40 k bx hbx
          have hvb := hv k bx hbx
          obtain ⟨b', o, sv, rfl, hbl, c0, hsv⟩ := (hs.below hS.2.2).at hbx
          obtain ⟨sa, sc, rfl, hsl, hsm⟩ := hsv.form
          unfold maxLen at hsm
          generalize hmm : bx.length = m at *
          have HM := Lib.hid hmm
          have j1 : (j : Int) < 4 := by omega
          have j2 : (0 : Int) ≤ (j : Int) := by omega
          clear hmm hbx
          by_cases hjm : j < m
          · have j3 : (j : Int) < (m : Int) := by omega
            obtain ⟨xs, hx⟩ : ∃ xs, bx[j]? = some xs := ⟨_, List.getElem?_eq_getElem (by rw [HM.out]; exact hjm)⟩
            have hl3 := hl2 j xs hx
            have hvx := Lib.hid (bvalid_in hvb hj4 hx)
            obtain ⟨b2, o2, sv2, rfl, hbl2, d0, hsv2⟩ := hsv.at hx
            obtain ⟨ta, tc, rfl, htl, htm⟩ := hsv2.form
            unfold maxLen at htm
            generalize hll : xs.length = L at *
            have HL := Lib.hid hll
            clear hll hx hsv
            by_cases hL0 : L = 0
            · subst hL0
              go_wp2
              go_roundw
              case rel => exact ⟨j + 1, by omega, by go_num, hS⟩
              case measure => simp [intOf]; omega
            · have hL0i : ((L : Int) == 0) = false := by simpa using hL0
              by_cases h3 : ((sd : Int) + (k : Int) + (j : Int)) % 3 = 0
              · go_wp2
                go_roundw
                case rel => exact ⟨j + 1, by omega, by go_num, hS⟩
                case measure => simp [intOf]; omega
              · have h3b : (((sd : Int) + (k : Int) + (j : Int)) % 3 == 0) = false := by simpa using h3
                obtain ⟨mm, hmm⟩ := Int.eq_ofNat_of_zero_le (Int.emod_nonneg ((sd : Int) + (j : Int)) (by omega : (L : Int) ≠ 0))
                have hml := Int.emod_lt_of_pos ((sd : Int) + (j : Int)) (by omega : (0 : Int) < (L : Int))
                rw [hmm] at hml
                obtain ⟨sb, so, f1, f2, rfl, hsbl, hxm, s0, s1⟩ := hsv2.at (k := mm) (by rw [HL.out]; omega)
                obtain ⟨q1, q2, q3, q4⟩ := hvx.out _ (List.mem_of_getElem? hxm)
                simp only at q1 q2 q3 q4
                have HQ := Lib.hid (And.intro (And.intro q1 q2) (And.intro q3 q4))
                clear q1 q2 q3 q4 hxm
                clear hsv2
                have hS2 := Lib.hid (hS.al (.cells #[.int .i64 f1, .int .i64 f2] 71))
                obtain ⟨⟨c, hc⟩, hcf, hVl⟩ := hS.get hj4
                have hT := Lib.hid hS
                clear hS hS2
                by_cases h2 : ((sd : Int) + (k : Int)) % 2 = 0
                · have h2b : (((sd : Int) + (k : Int)) % 2 == 0) = true := by simpa using h2
                  go_wp2
                  go_roundw
                  case rel => exact ⟨j + 1, by omega, by go_num, ((hT.out.put hj4 f1 HQ.out.1.1 HQ.out.1.2).put hj4 f2 HQ.out.2.1 HQ.out.2.2).al _⟩
                  case measure => simp [intOf]; omega
                · have h2b : (((sd : Int) + (k : Int)) % 2 == 0) = false := by simpa using h2
                  go_wp2
                  go_roundw
                  case rel => exact ⟨j + 1, by omega, by go_num, (hT.out.put hj4 f1 HQ.out.1.1 HQ.out.1.2).al _⟩
                  case measure => simp [intOf]; omega
          · have j3 : ¬ (j : Int) < (m : Int) := by omega
            go_wp2
            go_roundw
            case rel => exact ⟨k + 1, by omega, by go_num, hS⟩
            case measure => simp [intOf]; omega
        · have j1 : ¬ (j : Int) < 4 := by omega
          go_wp2
          go_roundw
          case rel => exact ⟨k + 1, by omega, by go_num, hS⟩
          case measure => simp [intOf]; omega
    · have hkn : k = n := by omega
      obtain ⟨⟨u0, u1, u2, u3, V, K⟩, A, hB⟩ := hS
      have HK := Lib.hid K
      clear K
      obtain ⟨l0, c0, c1, c2, c3, cf⟩ := id V
      obtain ⟨a0, d0, d1, d2, d3, df⟩ := id A
      go_wp2_with fail
      clear V A
      go_region
      all_goals
        go_wp2_with fail
        exact bodyPost_ret (v := .agg #[.int .i64 u0, .int .i64 u1, .int .i64 u2, .int .i64 u3]) (by simp [results, Tryd.results14, go_sem, d0, d1, d2, d3]) rfl ⟨⟨u0, u1, u2, u3⟩, rfl, ok4_ok HK.out, by (repeat' (first | with_reducible exact Below.refl _ _ | with_reducible assumption | with_reducible refine Below.setCell ?_ ?_ _ | with_reducible refine Below.alloc ?_ ?_ _ | with_reducible refine Below.drew ?_ | with_reducible refine belDrewN ?_ _ | with_reducible refine Below.trans ?_ (Below.mono (by assumption) ?_) | omega | (simp; omega) | (simp; done)))⟩
end Go.Proofs.YtojafgooobpoiaaDoor
