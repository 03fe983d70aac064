/- New rules of the program's: copies of all sets. -/
import Derived.Test.YtkcnbkkgpampaaaDoorFnB
import Derived.Test.YtkcnbkkgpampaaaDoorFmG
namespace Go.Proofs.YtkcnbkkgpampaaaDoor
open Go.RowKit
theorem sl4_form {lo : Nat} {w : World} {v0 v1 v2 v3 : Value} {b : Bx} (h : All2 (Sps lo w) [v0, v1, v2, v3] b) :
    ∃ a0 n0 p0 a1 n1 p1 a2 n2 p2 a3 n3 p3, v0 = .slice a0 n0 p0 ∧ v1 = .slice a1 n1 p1 ∧ v2 = .slice a2 n2 p2 ∧ v3 = .slice a3 n3 p3 := by
  match b, h.1 with
  | [x0, x1, x2, x3], _ =>
    obtain ⟨a0, c0, h0, _⟩ := (h.2 0 v0 x0 rfl rfl).form
    obtain ⟨a1, c1, h1, _⟩ := (h.2 1 v1 x1 rfl rfl).form
    obtain ⟨a2, c2, h2, _⟩ := (h.2 2 v2 x2 rfl rfl).form
    obtain ⟨a3, c3, h3, _⟩ := (h.2 3 v3 x3 rfl rfl).form
    exact ⟨_, _, _, _, _, _, _, _, _, _, _, _, h0, h1, h2, h3⟩
set_option maxHeartbeats 2000000 in
set_option maxRecDepth 100000 in
theorem newFlats_any {lo : Nat} (fs : List Ft) (v : Value) (w : World) (hs : Ifs lo w v fs) (hle : ∀ (k : Nat) f, fs[k]? = some f → ∀ (j : Nat) xs, f.box[j]? = some xs → xs.length ≤ 1000000) (hl : fs.length ≤ 1000000) :
    Calls Tryd.prog 73 #[v] w fun e w' => ∃ v', e = .returned v' ∧ GFs w' w.heap.size w'.heap.size v' fs ∧ Below w.heap.size w w' := by
  obtain ⟨a, cap, rfl, hlc, hcm⟩ := hs.form
  unfold maxLen at hcm
  generalize hn : fs.length = n at *
  have HN := Lib.hid hn
  have HS := Lib.hid hs
  have HLE := Lib.hid hle
  obtain ⟨i0, hi, hy0, hy1, hy2⟩ := info_parts infoFt
  clear hn hs hle
  go_enter Tryd.func73, Tryd.ntmps73
  go_wp2_with (at_make; refine wpList_make_own _ rfl _ _ 25 rfl w.heap.size 52 i0 _ 2 Tryd.underlying25 hi hy0 hy1 _ _ _ n rfl rfl rfl ?b1 ?b2 ?b3 ?_)
  case b1 => rw [hy2]; omega
  case b2 => simp only [maxLen]; omega
  case b3 => omega
  intro w1 hown1 hgrow1
  have hb1 : Below w.heap.size w w1 := (Below.refl _ _).grown hgrow1 (Nat.le_refl _) (fun k hk => by cases hk)
  have HO1 := Lib.hid (show OwnSl w.heap.size 52 2 RF.enc w1 (.slice (some ⟨w.heap.size, 0, none⟩) 0 n) ([] : List RF) by simpa [OwnSl] using hown1)
  clear hown1 hgrow1
  go_wp2_with fail
  go_loopw [3, 5, 11] (fun o _ i wr => ∃ (k : Nat) (rs : List RF), k ≤ n ∧ i = .int .i64 k ∧ OwnSl w.heap.size 52 2 RF.enc wr o rs ∧ Hid (∀ z, o.ownBlock = some z → z < wr.heap.size) ∧ Hid (OwnD (fun l h y z => PFg wr l h y z ∧ Off o.ownBlock l h) w.heap.size wr.heap.size rs (fs.take k)) ∧ Below w.heap.size w wr) (fun _ _ i _ => n - (intOf i).toNat)
  case atStart => exact ⟨0, [], by omega, rfl, HO1.out, Lib.hid (fun z hz => (World.ownsRow.lt HO1.out z hz).2), Lib.hid hb1.size, hb1⟩
  case round =>
    obtain ⟨k, rs, hk, rfl, hO, HX, HD, hbr⟩ := hrel
    have HO := Lib.hid hO
    clear hO HO1 hb1
    have hzr := hbr.size
    by_cases hlt : k < n
    · have i1 : (k : Int) < (n : Int) := by omega
      have i2 : (0 : Int) ≤ (k : Int) := by omega
      obtain ⟨f, hx⟩ : ∃ f, fs[k]? = some f := ⟨_, List.getElem?_eq_getElem (by rw [HN.out]; exact hlt)⟩
      obtain ⟨b, o, v0, v1, v2, v3, rfl, hbl, c0, c1, c2, c3, c4, hss⟩ := (HS.out.below hbr).at hx
      obtain ⟨a0, n0, p0, a1, n1, p1, a2, n2, p2, a3, n3, p3, rfl, rfl, rfl, rfl⟩ := sl4_form hss
      have HXX := Lib.hid hx
      have HSS := Lib.hid hss
      have HLF := Lib.hid (HLE.out k f hx)
      obtain ⟨p, hp⟩ : ∃ p, f.acc = p := ⟨_, rfl⟩
      rw [hp] at c4
      have HP := Lib.hid hp
      clear hx hss hp
      have hal : Below wr.heap.size wr ((wr.alloc (.cells #[.slice a0 n0 p0, .slice a1 n1 p1, .slice a2 n2 p2, .slice a3 n3 p3, .bool p] 104)).drew) := ((Below.refl _ _).alloc (Nat.le_refl _) _).drew
      have kk : ((wr.alloc (.cells #[.slice a0 n0 p0, .slice a1 n1 p1, .slice a2 n2 p2, .slice a3 n3 p3, .bool p] 104)).drew).cell? ⟨wr.heap.size, 4, none⟩ = some (.bool p) := by simp [World.cell?_drew]
      have ks : wr.heap.size < ((wr.alloc (.cells #[.slice a0 n0 p0, .slice a1 n1 p1, .slice a2 n2 p2, .slice a3 n3 p3, .bool p] 104)).drew).heap.size := by simp [World.drew]
      have kz : ((wr.alloc (.cells #[.slice a0 n0 p0, .slice a1 n1 p1, .slice a2 n2 p2, .slice a3 n3 p3, .bool p] 104)).drew).heap.size = wr.heap.size + 1 := by simp [World.drew]
      have HAL := Lib.hid hal
      have HKK := Lib.hid (And.intro kk (And.intro ks kz))
      have HBR := Lib.hid hbr
      have HBD := Lib.hid (show rs.length ≤ 1000000 by have := HD.out.len; rw [List.length_take] at this; omega)
      clear kk ks kz hbr hal
      go_wp2_with fail
      go_region_law (first | ((fail_if_success have := hb4); go_simp; go_wp2_with (go_at_call 107; refine (box_any f.box _ _ _ _ wr _ HSS.out HAL.out HLF.out).mono ?_; rintro e w4 ⟨v4, rfl, ho4, hb4⟩; obtain ⟨va4, vc4, rfl, -, -⟩ := ho4.rws.form; have e1 := (hb4.cell (p := ⟨wr.heap.size, 4, none⟩) HKK.out.2.1).trans HKK.out.1)) | (refine step_append_lies _ rfl (.tmp 15) (.tmp 22) 25 rfl w.heap.size 52 i0 _ 2 32 Tryd.underlying25 hi hy0 hy1 hy2 rfl (by decide) u3 rs.length (rs.flatMap RF.enc) (by simp [Act.eval]) (World.ownsRow.alloc (OwnSl.kept HO.out (HAL.out.trans (hb4.mono HAL.out.size))) _) ⟨w4.heap.size, 0, none⟩ 1 1 (RF.enc ⟨.slice va4 f.box.length vc4, p⟩) (by simp [Act.eval]) rfl (cellsNew w4 (RF.enc ⟨.slice va4 f.box.length vc4, p⟩) _) (by simp [Value.oneCell']) (by decide) (by have := HBD.out; simp only [maxLen]; omega) (by have := HBD.out; omega) (by have := hb4.size; have := HAL.out.size; have := HBR.out.size; simp; omega) _ rfl ?_; intro g5 cap5 w5 hown5 hgrow5 hlies5 hlt5))
      all_goals
        have hw4 : Below wr.heap.size wr w4 := HAL.out.trans (hb4.mono HAL.out.size)
        have hz4 := hw4.size
        have hz5 := hb4.size
        rw [HKK.out.2.2] at hz5 ho4
        have hq4 : PFg w4 wr.heap.size w4.heap.size ⟨.slice va4 f.box.length vc4, p⟩ f := ⟨(OwnRw.mono ho4 (by omega) (Nat.le_refl _)).g, HP.out.symm⟩
        have hp5 := OwnG.push (P := PFg) (e := 52) (sz := 2) (enc := RF.enc) PFg.kind (w := wr) (w1 := w4) HD.out HX.out (by omega) hw4 hq4 (grown_old hgrow5) (OwnSl.pushed rfl hown5) hlies5 hlt5 (by simp)
        have hB : Below w.heap.size w w5 := belGrown ((HBR.out.trans (hw4.mono HBR.out.size)).alloc (by omega) _) (World.ownsRow.alloc (OwnSl.kept HO.out hw4) _) hgrow5 (by simp; omega)
        have HP5 := Lib.hid hp5
        clear hown5 hgrow5 hlies5 hlt5 e1 ho4 hb4 hw4 hq4 hp5
        go_wp2
        go_roundw
        case rel =>
          obtain ⟨vs6, ho6, hv6, hl6, hd6⟩ := HP5.out
          refine ⟨k + 1, vs6, by omega, by go_num, ho6, Lib.hid hv6, Lib.hid ?_, hB⟩
          rw [List.take_add_one, HXX.out]
          exact hd6
        case measure => simp [intOf]; omega
    · have hkn : k = n := by omega
      go_wp2
      go_ret
      refine ⟨u3, rfl, ⟨rs, HO.out, HX.out, hzr, ?_⟩, hbr⟩
      have := HD.out
      rwa [List.take_of_length_le (by rw [HN.out]; omega)] at this
end Go.Proofs.YtkcnbkkgpampaaaDoor
