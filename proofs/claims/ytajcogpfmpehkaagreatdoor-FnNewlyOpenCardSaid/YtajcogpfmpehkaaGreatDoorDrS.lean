/- Rules without the dead ones: both walks. -/
import Derived.Test.YtajcogpfmpehkaaGreatDoorDeS
namespace Go.Proofs.YtajcogpfmpehkaaGreatDoor
open Go.RowKit
/-- The numbers of the dead rules from k on, m rules long. -/
def deadr (fs : List Ft) : Nat → Nat → List Int
  | _, 0 => []
  | k, m + 1 => (if deadk fs k then [(k : Int)] else []) ++ deadr fs (k + 1) m
theorem dropl_succ {fs : List Ft} {k : Nat} {f : Ft} (hx : fs[k]? = some f) : dropl fs (k + 1) = dropl fs k ++ (if deadk fs k then [] else [f]) := by
  simp only [dropl]
  rw [hx]
  rfl
set_option maxHeartbeats 2000000 in
set_option maxRecDepth 100000 in
theorem specDropDead_e {lo : Nat} {fs R : List Ft} {v : Value} {w : World} (hs : Fts lo w v fs) (hN : ftN fs ≤ 1048576) (h : dropd fs = R) :
    Calls Tryz.prog 76 #[v] w fun e w' => ∃ v', e = .returned v' ∧ Fts 0 w' v' R ∧ Below w.heap.size w w' := by
  have HR := Lib.hid h
  obtain ⟨i0, hi, hy0, hy1, hy2⟩ := info_parts infoFt
  obtain ⟨fv, hfv⟩ : ∃ fv, fvalid fs = fv := ⟨_, rfl⟩
  go_enter Tryz.func76, Tryz.ntmps76
  go_wp2_with fail
  refine (ownFlats_any fs _ _ hs hN).mono ?_
  rintro e w1 ⟨v1, rfl, ho1, hb1⟩
  have hz1 := hb1.size
  have hs1 := ho1.fts
  obtain ⟨a, cap, rfl, hlc, hcm⟩ := hs1.form
  unfold maxLen at hcm
  generalize hn : fs.length = n at *
  have HN := Lib.hid hn
  have HS := Lib.hid hs1
  have hal : Below w1.heap.size w1 (w1.alloc (.cells #[] 81)) := (Below.refl _ _).alloc (Nat.le_refl _) _
  have HO0 := Lib.hid (litOwn 81 2 RF.enc (base := w1.heap.size) (w := w1) (Nat.le_refl _))
  clear hs hs1 hn h ho1
  go_wp2_with fail
  go_loopw [3, 4] (fun o i wr => ∃ (k : Nat) (rs : List RF), k ≤ n ∧ i = .int .i64 k ∧ (fv = false → k = 0) ∧ Hid (OwnSl w1.heap.size 81 2 RF.enc wr o rs) ∧ Hid (All2 (fun (r : RF) (f : Ft) => Rws w.heap.size w1 r.s f.box ∧ r.acc = f.acc) rs (dropl fs k)) ∧ Below w1.heap.size w1 wr) (fun _ i _ => n - (intOf i).toNat)
  case atStart => exact ⟨0, [], by omega, rfl, fun _ => rfl, HO0, Lib.hid All2.nil, hal⟩
  case round =>
    obtain ⟨k, rs, hk, rfl, hk0, HO, HA, hbr⟩ := hrel
    have hzr := hbr.size
    have hwr := hb1.trans (hbr.mono hz1)
    have HFV := Lib.hid hfv
    clear HO0 hal
    by_cases hlt : k < n
    · have i1 : (k : Int) < (n : Int) := by omega
      have i2 : (0 : Int) ≤ (k : Int) := by omega
      cases fv
      · go_wp2_with fail
        refine (specFV_b (HS.out.below hbr) hfv).mono ?_
        rintro e w3 ⟨rfl, hb3⟩
        have hw3 := hwr.trans (hb3.mono hwr.size)
        have hk00 : k = 0 := by first | exact hk0 rfl | exact hk0 trivial | simpa using hk0
        subst hk00
        have HE := Lib.hid (show R = [] by rw [← HR.out, dropd, HFV.out]; rfl)
        have HO3 := Lib.hid (OwnSl.kept HO.out hb3)
        clear hb3
        go_wp2
        go_ret
        refine ⟨_, rfl, ?_, hw3⟩
        rw [HE.out]
        have hl := HA.out.1
        simp only [dropl, List.length_nil] at hl
        have : rs = [] := List.eq_nil_of_length_eq_zero hl
        subst this
        exact ⟨[], SlFr.mono (OwnSl.fr (sz := 2) (enc := RF.enc) (fun _ => rfl) HO3.out) (Nat.zero_le _), All2.nil⟩
      · have h60 : n ≤ 60 := by rw [← HN.out]; exact fvalid_60 hfv
        go_wp2_with fail
        refine (specFV_b (HS.out.below hbr) hfv).mono ?_
        rintro e w3 ⟨rfl, hb3⟩
        have hw3 := hbr.trans (hb3.mono hzr)
        have HO3 := Lib.hid (OwnSl.kept HO.out hb3)
        clear hb3 HO
        obtain ⟨r, hr⟩ : ∃ r, deadk fs k = r := ⟨_, rfl⟩
        have HRR := Lib.hid hr
        go_wp2_with fail
        refine (l14Dead_b (HS.out.below hw3) hfv (by rw [HN.out]; exact hlt) hr).mono ?_
        rintro e w4 ⟨rfl, hb4⟩
        have hw4 := hw3.trans (hb4.mono hw3.size)
        have hz4 := hw4.size
        have HO4 := Lib.hid (OwnSl.kept HO3.out hb4)
        obtain ⟨f, hx⟩ : ∃ f, fs[k]? = some f := ⟨_, List.getElem?_eq_getElem (by rw [HN.out]; exact hlt)⟩
        obtain ⟨b, o, sv, rfl, hbl, c0, c1, hsv⟩ := HS.out.at hx
        replace c0 := (hw4.cell (p := ⟨b, o + k * 2, none⟩) hbl).trans c0
        replace c1 := (hw4.cell (p := ⟨b, o + k * 2 + 1, none⟩) hbl).trans c1
        have hbl4 := Nat.lt_of_lt_of_le hbl hz4
        obtain ⟨x1, y1, rfl, -, -⟩ := hsv.form
        have HXX := Lib.hid (dropl_succ hx)
        have HSV := Lib.hid hsv
        have hrl : rs.length ≤ n := by
          have h1 := HA.out.1
          have h2 := dropl_len fs k (by rw [HN.out]; omega)
          omega
        have HBD := Lib.hid (show rs.length ≤ 1000000 by omega)
        clear hb4 HO3 hr hx hsv
        cases r
        · go_wp2_with (at_builtin; refine wpList_append_own _ rfl _ _ 23 rfl w1.heap.size 81 i0 _ 2 32 Tryz.underlying23 hi hy0 hy1 hy2 rfl (by decide) _ _ _ rfl (World.ownsRow.alloc HO4.out _) ⟨w4.heap.size, 0, none⟩ 1 1 (RF.enc ⟨.slice x1 f.box.length y1, f.acc⟩) rfl rfl (cellsNew w4 (RF.enc ⟨.slice x1 f.box.length y1, f.acc⟩) _) ?c2 ?c3 ?c4 ?c5 ?_)
          case c2 => simp [Value.oneCell']
          case c3 => have := HBD.out; simp only [maxLen]; omega
          case c4 => have := HBD.out; omega
          case c5 => simp; omega
          intro v' w5 hown5 hgrow5 _
          have hB5 : Below w1.heap.size w1 w5 := belGrown (hw4.alloc (by omega) _) (World.ownsRow.alloc HO4.out _) hgrow5 (by simp; omega)
          have HO5 := Lib.hid (OwnSl.pushed (sz := 2) (enc := RF.enc) (y := ⟨.slice x1 f.box.length y1, f.acc⟩) rfl hown5)
          have HA5 := Lib.hid (show All2 (fun (r : RF) (f : Ft) => Rws w.heap.size w1 r.s f.box ∧ r.acc = f.acc) (rs ++ [⟨.slice x1 f.box.length y1, f.acc⟩]) (dropl fs (k + 1)) by
            rw [HXX.out, HRR.out]
            exact HA.out.snoc ⟨HSV.out, rfl⟩)
          clear hown5 hgrow5
          go_wp2
          go_roundw
          case rel => exact ⟨k + 1, _, by omega, by go_num, (fun h => by cases h), HO5, HA5, hB5⟩
          case measure => simp [intOf]; omega
        · have HA5 := Lib.hid (show All2 (fun (r : RF) (f : Ft) => Rws w.heap.size w1 r.s f.box ∧ r.acc = f.acc) rs (dropl fs (k + 1)) by
            rw [HXX.out, HRR.out]
            simpa using HA.out)
          go_wp2
          go_roundw
          case rel => exact ⟨k + 1, _, by omega, by go_num, (fun h => by cases h), HO4, HA5, hw4⟩
          case measure => simp [intOf]; omega
    · have hkn : k = n := by omega
      have HB := Lib.hid (show Fts 0 wr u3 R by
        have h1 := OwnSl.fr (sz := 2) (enc := RF.enc) (fun _ => rfl) HO.out
        have h2 : All2 (fun (r : RF) (f : Ft) => Rws 0 wr r.s f.box ∧ r.acc = f.acc) rs (dropl fs k) := HA.out.mono (fun _ _ g => ⟨(g.1.below hbr).mono (Nat.zero_le _), g.2⟩)
        cases fv
        · have hk00 : k = 0 := by first | exact hk0 rfl | exact hk0 trivial | simpa using hk0
          subst hk00
          rw [← HR.out, dropd, HFV.out]
          exact ⟨rs, SlFr.mono h1 (Nat.zero_le _), h2⟩
        · rw [← HR.out, dropd, HFV.out, HN.out, ← hkn]
          exact ⟨rs, SlFr.mono h1 (Nat.zero_le _), h2⟩)
      go_wp2
      go_ret
      exact ⟨_, rfl, HB.out, hwr⟩
end Go.Proofs.YtajcogpfmpehkaaGreatDoor
