/- Rules without the dead ones: both walks. -/
import Derived.Test.YtajcogpfmpehkaaGreatDoorDeS
namespace Go.Proofs.YtajcogpfmpehkaaGreatDoor
open Go.RowKit
/-- The numbers of the dead rules from k on, m rules long. -/
def deadr (fs : List Ft) : Nat → Nat → List Int
  | _, 0 => []
  | k, m + 1 => (if deadk fs k then [(k : Int)] else []) ++ deadr fs (k + 1) m
theorem deadr_ge (fs : List Ft) : ∀ (m k : Nat) (x : Int), x ∈ deadr fs k m → (k : Int) ≤ x
  | 0, _, _, h => by simp [deadr] at h
  | m + 1, k, x, h => by
    simp only [deadr, List.mem_append] at h
    rcases h with h | h
    · split at h
      · simp at h; omega
      · simp at h
    · have := deadr_ge fs m (k + 1) x h
      omega
theorem deadl_split (fs : List Ft) : ∀ (m k : Nat), deadl fs (k + m) = deadl fs k ++ deadr fs k m
  | 0, k => by simp [deadr]
  | m + 1, k => by
    rw [show k + (m + 1) = (k + 1) + m by omega, deadl_split fs m (k + 1)]
    simp only [deadl, deadr, List.append_assoc]
theorem deadr_all (fs : List Ft) (n : Nat) : deadl fs n = deadr fs 0 n := by
  have := deadl_split fs n 0
  rw [Nat.zero_add] at this
  rw [this]; rfl
theorem deadr_no {fs : List Ft} {k m : Nat} (h : deadk fs k = false) : deadr fs k (m + 1) = deadr fs (k + 1) m := by simp [deadr, h]
theorem deadr_yes {fs : List Ft} {k m : Nat} (h : deadk fs k = true) : deadr fs k (m + 1) = (k : Int) :: deadr fs (k + 1) m := by simp [deadr, h]
theorem dropl_succ {fs : List Ft} {k : Nat} {f : Ft} (hx : fs[k]? = some f) : dropl fs (k + 1) = dropl fs k ++ (if deadk fs k then [] else [f]) := by
  simp only [dropl]
  rw [hx]
  rfl
theorem Ins.atI {w : World} {a : Option Addr} {n cap : Nat} {xs : List Int} (h : Ins w (.slice a n cap) xs) {k : Nat} {x : Int} (hk : xs[k]? = some x) : ∃ b o, a = some ⟨b, o, none⟩ ∧ b < w.heap.size ∧ w.cell? ⟨b, o + k, none⟩ = some (.int .i64 x) := by
  obtain ⟨a', cap', he, _, _, hx⟩ := h
  obtain ⟨rfl, _, _⟩ := Value.slice.inj he
  obtain ⟨b, o, ha, hb, hc⟩ := hx k x hk
  exact ⟨b, o, ha, hb, by simpa using hc 0 _ rfl⟩
theorem Ins.formI {w : World} {v : Value} {xs : List Int} (h : Ins w v xs) : ∃ a cap, v = .slice a xs.length cap ∧ xs.length ≤ cap ∧ cap ≤ maxLen := by
  obtain ⟨a, cap, he, h1, h2, _⟩ := h
  exact ⟨a, cap, he, h1, h2⟩
set_option maxHeartbeats 2000000 in
set_option maxRecDepth 100000 in
theorem withoutDead_any {lo : Nat} (fs : List Ft) (v : Value) (w : World) (ht : Tab w) (hs : Ifs lo w v fs) (hv : fvalid fs = true) :
    Calls Tryz.prog 59 #[v] w fun e w' => ∃ z, e = .returned z ∧ Ifs 0 w' z (dropl fs fs.length) ∧ Below w.heap.size w w' := by
  obtain ⟨a, cap, rfl, hlc, hcm⟩ := hs.form
  unfold maxLen at hcm
  obtain ⟨i0, hi, hy0, hy1, hy2⟩ := info_parts infoFl
  obtain ⟨j0, hj, hj0, hj1, hj2⟩ := info_parts infoInt
  have h60 := fvalid_60 hv
  generalize hn : fs.length = n at *
  have HN := Lib.hid hn
  have HS := Lib.hid hs
  clear hn hs
  go_enter Tryz.func59, Tryz.ntmps59
  go_wp2_with fail
  refine (deadIn_any fs _ w ht HS.out hv).mono ?_
  rintro e w1 ⟨d1, rfl, ho1, hb1⟩
  have hz1 := hb1.size
  rw [HN.out] at ho1
  have HD1 := Lib.hid (show Ins w1 d1 (deadr fs 0 n) by rw [← deadr_all]; exact OwnIn.ins ho1)
  clear ho1
  go_wp2_with (at_make; refine wpList_make_own _ rfl _ _ 50 rfl w1.heap.size 88 i0 _ 5 Tryz.underlying50 hi hy0 hy1 _ _ _ n rfl rfl rfl ?b1 ?b2 ?b3 ?_)
  case b1 => rw [hy2]; omega
  case b2 => simp only [maxLen]; omega
  case b3 => omega
  intro w2 hown2 hgrow2
  have hb2 : Below w1.heap.size w1 w2 := (Below.refl _ _).grown hgrow2 (Nat.le_refl _) (fun k hk => by cases hk)
  have hw2 := hb1.trans (hb2.mono hz1)
  have HO2 := Lib.hid (show OwnSl w1.heap.size 88 5 R5.enc w2 (.slice (some ⟨w1.heap.size, 0, none⟩) 0 n) ([] : List R5) by simpa [OwnSl] using hown2)
  clear hown2 hgrow2
  go_wp2_with fail
  go_loopw [3, 4, 5, 6, 14] (fun d o _ _ i wr => ∃ (k : Nat) (rs : List R5), k ≤ n ∧ i = .int .i64 k ∧ Hid (Ins w1 d (deadr fs k (n - k))) ∧ Hid (OwnSl w1.heap.size 88 5 R5.enc wr o rs) ∧ Hid (All2 (R5.ok lo w) rs (dropl fs k)) ∧ Below w1.heap.size w1 wr) (fun _ _ _ _ i _ => n - (intOf i).toNat)
  case atStart => exact ⟨0, [], by omega, rfl, HD1, HO2, Lib.hid All2.nil, hb2⟩
  case round =>
    obtain ⟨k, rs, hk, rfl, HD, HO, HR, hbr⟩ := hrel
    clear HD1 HO2
    have hzr := hbr.size
    have hwr := hb1.trans (hbr.mono hz1)
    by_cases hlt : k < n
    · have i1 : (k : Int) < (n : Int) := by omega
      have i2 : (0 : Int) ≤ (k : Int) := by omega
      obtain ⟨f, hx⟩ : ∃ f, fs[k]? = some f := ⟨_, List.getElem?_eq_getElem (by rw [HN.out]; exact hlt)⟩
      obtain ⟨b, o, v0, v1, v2, v3, rfl, hbl, c0, c1, c2, c3, c4, hss⟩ := HS.out.at hx
      replace c0 := (hwr.cell (p := ⟨b, o + k * 5, none⟩) hbl).trans c0
      replace c1 := (hwr.cell (p := ⟨b, o + k * 5 + 1, none⟩) hbl).trans c1
      replace c2 := (hwr.cell (p := ⟨b, o + k * 5 + 2, none⟩) hbl).trans c2
      replace c3 := (hwr.cell (p := ⟨b, o + k * 5 + 3, none⟩) hbl).trans c3
      replace c4 := (hwr.cell (p := ⟨b, o + k * 5 + 4, none⟩) hbl).trans c4
      have hbl2 := Nat.lt_of_lt_of_le hbl hwr.size
      obtain ⟨a0, n0, p0, a1, n1, p1, a2, n2, p2, a3, n3, p3, rfl, rfl, rfl, rfl⟩ := sl4_form hss
      have HXX := Lib.hid (dropl_succ hx)
      have HSS := Lib.hid hss
      have hrl : rs.length ≤ n := by
        have h1 := HR.out.1
        have h2 := dropl_len fs k (by rw [HN.out]; omega)
        omega
      have HBD := Lib.hid (show rs.length ≤ 1000000 by omega)
      have hnk : n - k = (n - (k + 1)) + 1 := by omega
      cases hd : deadk fs k
      · have HDD := Lib.hid (deadr_no (m := n - (k + 1)) hd)
        have HDK := Lib.hid hd
        have hge := deadr_ge fs (n - (k + 1)) (k + 1)
        rw [hnk, HDD.out] at HD
        have HD6 := HD
        obtain ⟨D, hDE⟩ : ∃ D, deadr fs (k + 1) (n - (k + 1)) = D := ⟨_, rfl⟩
        rw [hDE] at HD hge
        obtain ⟨da, dc, rfl, hdl, hdm⟩ := Ins.formI HD.out
        clear hx hss hd hnk hDE
        cases D with
        | nil =>
          simp only [List.length_nil] at HD6 hdl HD ⊢
          go_wp2_with (at_builtin; refine wpList_append_own _ rfl _ _ 50 rfl w1.heap.size 88 i0 _ 5 104 Tryz.underlying50 hi hy0 hy1 hy2 rfl (by decide) _ _ _ rfl (World.ownsRow.alloc (World.ownsRow.alloc HO.out _) _) ⟨wr.heap.size + 1, 0, none⟩ 1 1 (R5.enc ⟨.slice a0 n0 p0, .slice a1 n1 p1, .slice a2 n2 p2, .slice a3 n3 p3, f.acc⟩) rfl rfl (cellsNew2 wr _ _ (R5.enc ⟨.slice a0 n0 p0, .slice a1 n1 p1, .slice a2 n2 p2, .slice a3 n3 p3, f.acc⟩) _) ?c2 ?c3 ?c4 ?c5 ?_)
          case c2 => simp [Value.oneCell']
          case c3 => have := HBD.out; simp only [maxLen]; omega
          case c4 => have := HBD.out; omega
          case c5 => simp; omega
          intro v' w5 hown5 hgrow5 _
          have hB := belGrown ((hbr.alloc hzr _).alloc (by simp; omega) _) (World.ownsRow.alloc (World.ownsRow.alloc HO.out _) _) hgrow5 (by simp; omega)
          have HO6 := Lib.hid (OwnSl.pushed (sz := 5) (enc := R5.enc) (y := ⟨.slice a0 n0 p0, .slice a1 n1 p1, .slice a2 n2 p2, .slice a3 n3 p3, f.acc⟩) rfl hown5)
          have HR6 := Lib.hid (show All2 (R5.ok lo w) (rs ++ [⟨.slice a0 n0 p0, .slice a1 n1 p1, .slice a2 n2 p2, .slice a3 n3 p3, f.acc⟩]) (dropl fs (k + 1)) by
            rw [HXX.out, HDK.out]
            exact All2.snoc HR.out ⟨HSS.out, rfl⟩)
          clear hown5 hgrow5
          go_wp2
          go_roundw
          case rel => exact ⟨k + 1, _, by omega, by go_num, HD6, HO6, HR6, hB⟩
          case measure => simp [intOf]; omega
        | cons x D =>
          obtain ⟨db, dof, rfl, hdb, hdc⟩ := Ins.atI HD.out (show (x :: D)[0]? = some x from rfl)
          rw [Nat.add_zero] at hdc
          replace hdc := (hbr.cell (p := ⟨db, dof, none⟩) hdb).trans hdc
          have hdb2 := Nat.lt_of_lt_of_le hdb hzr
          have hxk := hge x List.mem_cons_self
          have hne : (x == (k : Int)) = false := by simpa using (show x ≠ (k : Int) by omega)
          have hpos : (0 : Int) < ((x :: D).length : Int) := by simp
          generalize (x :: D).length = dn at *
          clear hge hxk HD
          go_wp2_with (at_builtin; refine wpList_append_own _ rfl _ _ 50 rfl w1.heap.size 88 i0 _ 5 104 Tryz.underlying50 hi hy0 hy1 hy2 rfl (by decide) _ _ _ rfl (World.ownsRow.alloc (World.ownsRow.alloc HO.out _) _) ⟨wr.heap.size + 1, 0, none⟩ 1 1 (R5.enc ⟨.slice a0 n0 p0, .slice a1 n1 p1, .slice a2 n2 p2, .slice a3 n3 p3, f.acc⟩) rfl rfl (cellsNew2 wr _ _ (R5.enc ⟨.slice a0 n0 p0, .slice a1 n1 p1, .slice a2 n2 p2, .slice a3 n3 p3, f.acc⟩) _) ?c2 ?c3 ?c4 ?c5 ?_)
          case c2 => simp [Value.oneCell']
          case c3 => have := HBD.out; simp only [maxLen]; omega
          case c4 => have := HBD.out; omega
          case c5 => simp; omega
          intro v' w5 hown5 hgrow5 _
          have hB := belGrown ((hbr.alloc hzr _).alloc (by simp; omega) _) (World.ownsRow.alloc (World.ownsRow.alloc HO.out _) _) hgrow5 (by simp; omega)
          have HO6 := Lib.hid (OwnSl.pushed (sz := 5) (enc := R5.enc) (y := ⟨.slice a0 n0 p0, .slice a1 n1 p1, .slice a2 n2 p2, .slice a3 n3 p3, f.acc⟩) rfl hown5)
          have HR6 := Lib.hid (show All2 (R5.ok lo w) (rs ++ [⟨.slice a0 n0 p0, .slice a1 n1 p1, .slice a2 n2 p2, .slice a3 n3 p3, f.acc⟩]) (dropl fs (k + 1)) by
            rw [HXX.out, HDK.out]
            exact All2.snoc HR.out ⟨HSS.out, rfl⟩)
          clear hown5 hgrow5
          go_wp2
          go_roundw
          case rel => exact ⟨k + 1, _, by omega, by go_num, HD6, HO6, HR6, hB⟩
          case measure => simp [intOf]; omega
      · have HDD := Lib.hid (deadr_yes (m := n - (k + 1)) hd)
        have HDK := Lib.hid hd
        rw [hnk, HDD.out] at HD
        obtain ⟨D, hDE⟩ : ∃ D, deadr fs (k + 1) (n - (k + 1)) = D := ⟨_, rfl⟩
        have HDE := Lib.hid hDE
        rw [hDE] at HD
        obtain ⟨da, dc, rfl, hdl, hdm⟩ := Ins.formI HD.out
        obtain ⟨db, dof, rfl, hdb, hdc⟩ := Ins.atI HD.out (show ((k : Int) :: D)[0]? = some (k : Int) from rfl)
        rw [Nat.add_zero] at hdc
        replace hdc := (hbr.cell (p := ⟨db, dof, none⟩) hdb).trans hdc
        have hdb2 := Nat.lt_of_lt_of_le hdb hzr
        have hpos : (0 : Int) < (((k : Int) :: D).length : Int) := by simp
        have h1n : 1 ≤ ((k : Int) :: D).length := by simp
        have HD6 := Lib.hid (show Ins w1 (.slice (dropA (some ⟨db, dof, none⟩) dc 1 1) (((k : Int) :: D).length - 1) (dc - 1)) (deadr fs (k + 1) (n - (k + 1))) by
          rw [HDE.out]
          exact SlAt.drop HD.out h1n)
        have HR6 := Lib.hid (show All2 (R5.ok lo w) rs (dropl fs (k + 1)) by
          rw [HXX.out, HDK.out]
          simpa using HR.out)
        generalize ((k : Int) :: D).length = dn at *
        clear hx hss hd hnk hDE HD HDE
        go_wp2_with (refine wpList_slice_from rfl rfl (sz := 1) (k := 1) Tryz.underlying73 hj hj1 rfl rfl h1n ?_)
        go_wp2
        go_roundw
        case rel => exact ⟨k + 1, _, by omega, by go_num, HD6, Lib.hid (OwnSl.kept HO.out (by (repeat' (first | with_reducible exact Below.refl _ _ | with_reducible assumption | with_reducible refine Below.setCell ?_ ?_ _ | with_reducible refine Below.alloc ?_ ?_ _ | with_reducible refine Below.drew ?_ | with_reducible refine belDrewN ?_ _ | with_reducible refine Below.trans ?_ (Below.mono (by assumption) ?_) | omega | (simp; omega) | (simp; done))))), HR6, by (repeat' (first | with_reducible exact Below.refl _ _ | with_reducible assumption | with_reducible refine Below.setCell ?_ ?_ _ | with_reducible refine Below.alloc ?_ ?_ _ | with_reducible refine Below.drew ?_ | with_reducible refine belDrewN ?_ _ | with_reducible refine Below.trans ?_ (Below.mono (by assumption) ?_) | omega | (simp; omega) | (simp; done)))⟩
        case measure => simp [intOf]; omega
    · have hkn : k = n := by omega
      go_wp2
      go_ret
      have hR := HR.out
      rw [hkn] at hR
      exact ⟨_, rfl, ⟨rs, SlFr.mono (OwnSl.fr (sz := 5) (enc := R5.enc) (fun _ => rfl) HO.out) (Nat.zero_le _), hR.mono (fun _ _ g => ⟨(All2.mono g.1 (fun _ _ q => (q.below hwr).mono (Nat.zero_le _)) : All2 _ _ _), g.2⟩)⟩, hwr⟩
set_option maxHeartbeats 2000000 in
set_option maxRecDepth 100000 in
theorem specDropDead_e {lo : Nat} {fs R : List Ft} {v : Value} {w : World} (hs : Fts lo w v fs) (hN : ftN fs ≤ 1048576) (h : dropd fs = R) :
    Calls Tryz.prog 76 #[v] w fun e w' => ∃ v', e = .returned v' ∧ Fts 0 w' v' R ∧ Below w.heap.size w w' := by
  have HR := Lib.hid h
  obtain ⟨i0, hi, hy0, hy1, hy2⟩ := info_parts infoFt
  obtain ⟨fv, hfv⟩ : ∃ fv, fvalid fs = fv := ⟨_, rfl⟩
  go_enter Tryz.func76, Tryz.ntmps76
  go_wp2_with fail
  refine (ownFlats_any fs _ _ hs hN).mono ?_
  rintro e w1 ⟨v1, rfl, ho1, hb1⟩
  have hz1 := hb1.size
  have hs1 := ho1.fts
  obtain ⟨a, cap, rfl, hlc, hcm⟩ := hs1.form
  unfold maxLen at hcm
  generalize hn : fs.length = n at *
  have HN := Lib.hid hn
  have HS := Lib.hid hs1
  have hal : Below w1.heap.size w1 (w1.alloc (.cells #[] 81)) := (Below.refl _ _).alloc (Nat.le_refl _) _
  have HO0 := Lib.hid (litOwn 81 2 RF.enc (base := w1.heap.size) (w := w1) (Nat.le_refl _))
  clear hs hs1 hn h ho1
  go_wp2_with fail
  go_loopw [3, 4] (fun o i wr => ∃ (k : Nat) (rs : List RF), k ≤ n ∧ i = .int .i64 k ∧ (fv = false → k = 0) ∧ Hid (OwnSl w1.heap.size 81 2 RF.enc wr o rs) ∧ Hid (All2 (fun (r : RF) (f : Ft) => Rws w.heap.size w1 r.s f.box ∧ r.acc = f.acc) rs (dropl fs k)) ∧ Below w1.heap.size w1 wr) (fun _ i _ => n - (intOf i).toNat)
  case atStart => exact ⟨0, [], by omega, rfl, fun _ => rfl, HO0, Lib.hid All2.nil, hal⟩
  case round =>
    obtain ⟨k, rs, hk, rfl, hk0, HO, HA, hbr⟩ := hrel
    have hzr := hbr.size
    have hwr := hb1.trans (hbr.mono hz1)
    have HFV := Lib.hid hfv
    clear HO0 hal
    by_cases hlt : k < n
    · have i1 : (k : Int) < (n : Int) := by omega
      have i2 : (0 : Int) ≤ (k : Int) := by omega
      cases fv
      · go_wp2_with fail
        refine (specFV_b (HS.out.below hbr) hfv).mono ?_
        rintro e w3 ⟨rfl, hb3⟩
        have hw3 := hwr.trans (hb3.mono hwr.size)
        have hk00 : k = 0 := by first | exact hk0 rfl | exact hk0 trivial | simpa using hk0
        subst hk00
        have HE := Lib.hid (show R = [] by rw [← HR.out, dropd, HFV.out]; rfl)
        have HO3 := Lib.hid (OwnSl.kept HO.out hb3)
        clear hb3
        go_wp2
        go_ret
        refine ⟨_, rfl, ?_, hw3⟩
        rw [HE.out]
        have hl := HA.out.1
        simp only [dropl, List.length_nil] at hl
        have : rs = [] := List.eq_nil_of_length_eq_zero hl
        subst this
        exact ⟨[], SlFr.mono (OwnSl.fr (sz := 2) (enc := RF.enc) (fun _ => rfl) HO3.out) (Nat.zero_le _), All2.nil⟩
      · have h60 : n ≤ 60 := by rw [← HN.out]; exact fvalid_60 hfv
        go_wp2_with fail
        refine (specFV_b (HS.out.below hbr) hfv).mono ?_
        rintro e w3 ⟨rfl, hb3⟩
        have hw3 := hbr.trans (hb3.mono hzr)
        have HO3 := Lib.hid (OwnSl.kept HO.out hb3)
        clear hb3 HO
        obtain ⟨r, hr⟩ : ∃ r, deadk fs k = r := ⟨_, rfl⟩
        have HRR := Lib.hid hr
        go_wp2_with fail
        refine (l14Dead_b (HS.out.below hw3) hfv (by rw [HN.out]; exact hlt) hr).mono ?_
        rintro e w4 ⟨rfl, hb4⟩
        have hw4 := hw3.trans (hb4.mono hw3.size)
        have hz4 := hw4.size
        have HO4 := Lib.hid (OwnSl.kept HO3.out hb4)
        obtain ⟨f, hx⟩ : ∃ f, fs[k]? = some f := ⟨_, List.getElem?_eq_getElem (by rw [HN.out]; exact hlt)⟩
        obtain ⟨b, o, sv, rfl, hbl, c0, c1, hsv⟩ := HS.out.at hx
        replace c0 := (hw4.cell (p := ⟨b, o + k * 2, none⟩) hbl).trans c0
        replace c1 := (hw4.cell (p := ⟨b, o + k * 2 + 1, none⟩) hbl).trans c1
        have hbl4 := Nat.lt_of_lt_of_le hbl hz4
        obtain ⟨x1, y1, rfl, -, -⟩ := hsv.form
        have HXX := Lib.hid (dropl_succ hx)
        have HSV := Lib.hid hsv
        have hrl : rs.length ≤ n := by
          have h1 := HA.out.1
          have h2 := dropl_len fs k (by rw [HN.out]; omega)
          omega
        have HBD := Lib.hid (show rs.length ≤ 1000000 by omega)
        clear hb4 HO3 hr hx hsv
        cases r
        · go_wp2_with (at_builtin; refine wpList_append_own _ rfl _ _ 23 rfl w1.heap.size 81 i0 _ 2 32 Tryz.underlying23 hi hy0 hy1 hy2 rfl (by decide) _ _ _ rfl (World.ownsRow.alloc HO4.out _) ⟨w4.heap.size, 0, none⟩ 1 1 (RF.enc ⟨.slice x1 f.box.length y1, f.acc⟩) rfl rfl (cellsNew w4 (RF.enc ⟨.slice x1 f.box.length y1, f.acc⟩) _) ?c2 ?c3 ?c4 ?c5 ?_)
          case c2 => simp [Value.oneCell']
          case c3 => have := HBD.out; simp only [maxLen]; omega
          case c4 => have := HBD.out; omega
          case c5 => simp; omega
          intro v' w5 hown5 hgrow5 _
          have hB5 : Below w1.heap.size w1 w5 := belGrown (hw4.alloc (by omega) _) (World.ownsRow.alloc HO4.out _) hgrow5 (by simp; omega)
          have HO5 := Lib.hid (OwnSl.pushed (sz := 2) (enc := RF.enc) (y := ⟨.slice x1 f.box.length y1, f.acc⟩) rfl hown5)
          have HA5 := Lib.hid (show All2 (fun (r : RF) (f : Ft) => Rws w.heap.size w1 r.s f.box ∧ r.acc = f.acc) (rs ++ [⟨.slice x1 f.box.length y1, f.acc⟩]) (dropl fs (k + 1)) by
            rw [HXX.out, HRR.out]
            exact HA.out.snoc ⟨HSV.out, rfl⟩)
          clear hown5 hgrow5
          go_wp2
          go_roundw
          case rel => exact ⟨k + 1, _, by omega, by go_num, (fun h => by cases h), HO5, HA5, hB5⟩
          case measure => simp [intOf]; omega
        · have HA5 := Lib.hid (show All2 (fun (r : RF) (f : Ft) => Rws w.heap.size w1 r.s f.box ∧ r.acc = f.acc) rs (dropl fs (k + 1)) by
            rw [HXX.out, HRR.out]
            simpa using HA.out)
          go_wp2
          go_roundw
          case rel => exact ⟨k + 1, _, by omega, by go_num, (fun h => by cases h), HO4, HA5, hw4⟩
          case measure => simp [intOf]; omega
    · have hkn : k = n := by omega
      have HB := Lib.hid (show Fts 0 wr u3 R by
        have h1 := OwnSl.fr (sz := 2) (enc := RF.enc) (fun _ => rfl) HO.out
        have h2 : All2 (fun (r : RF) (f : Ft) => Rws 0 wr r.s f.box ∧ r.acc = f.acc) rs (dropl fs k) := HA.out.mono (fun _ _ g => ⟨(g.1.below hbr).mono (Nat.zero_le _), g.2⟩)
        cases fv
        · have hk00 : k = 0 := by first | exact hk0 rfl | exact hk0 trivial | simpa using hk0
          subst hk00
          rw [← HR.out, dropd, HFV.out]
          exact ⟨rs, SlFr.mono h1 (Nat.zero_le _), h2⟩
        · rw [← HR.out, dropd, HFV.out, HN.out, ← hkn]
          exact ⟨rs, SlFr.mono h1 (Nat.zero_le _), h2⟩)
      go_wp2
      go_ret
      exact ⟨_, rfl, HB.out, hwr⟩
end Go.Proofs.YtajcogpfmpehkaaGreatDoor
