/- Copies of boxes and rules without calls: the reference's. -/
import Derived.Test.YtnnmkdaioajkkaaDoorFnB
import Derived.Deep.AppendLies
import Derived.Deep.RegionLaw
namespace Go.Proofs.YtnnmkdaioajkkaaDoor
open Go.RowKit
theorem litOwn (e : Nat) (sz : Nat) {α : Type} (enc : α → List Value) {base : Nat} {w : World} (h : base ≤ w.heap.size) : OwnSl base e sz enc (w.alloc (.cells #[] e)) (.slice (some ⟨w.heap.size, 0, none⟩) 0 0) ([] : List α) := by
  have := World.ownsRow_made (e := e) (size := sz) w #[] 0 h (by simp) (by simp)
  simpa [OwnSl] using this
set_option maxHeartbeats 2000000 in
set_option maxRecDepth 100000 in
theorem ownRows_any {lo : Nat} (b : Bx) (v : Value) (w : World) (hs : Rws lo w v b) (hN : b.length ≤ 1048576) (he : ∀ (k : Nat) xs, b[k]? = some xs → xs.length ≤ 1048576) :
    Calls Tryd.prog 70 #[v] w fun e w' => ∃ v', e = .returned v' ∧ GRw w' w.heap.size w'.heap.size v' b ∧ Below w.heap.size w w' := by
  obtain ⟨a, cap, rfl, hlc, hcm⟩ := hs.form
  unfold maxLen at hcm
  generalize hn : b.length = n at *
  have HN := Lib.hid hn
  have HS := Lib.hid hs
  have HE := Lib.hid he
  obtain ⟨i0, hi, hy0, hy1, hy2⟩ := info_parts infoSl
  obtain ⟨j0, hj, hj0, hj1, hj2⟩ := info_parts infoSp
  have HO0 := Lib.hid (litOwn 86 1 enc1 (base := w.heap.size) (w := w) (Nat.le_refl _))
  have hal : Below w.heap.size w (w.alloc (.cells #[] 86)) := (Below.refl _ _).alloc (Nat.le_refl _) _
  clear hn hs he
  go_enter Tryd.func70, Tryd.ntmps70
  go_wp2_with fail
  go_loopw [3, 4] (fun o i wr => ∃ (k : Nat) (vs : List Value), k ≤ n ∧ i = .int .i64 k ∧ Hid (OwnSl w.heap.size 86 1 enc1 wr o vs) ∧ Hid (∀ z, o.ownBlock = some z → z < wr.heap.size) ∧ Hid (OwnD (fun l h y z => PSp wr l h y z ∧ Off o.ownBlock l h) w.heap.size wr.heap.size vs (b.take k)) ∧ Below w.heap.size w wr) (fun _ i _ => n - (intOf i).toNat)
  case atStart => exact ⟨0, [], by omega, rfl, HO0, Lib.hid (fun z hz => (World.ownsRow.lt HO0.out z hz).2), Lib.hid hal.size, hal⟩
  case round =>
    obtain ⟨k, vs, hk, rfl, HO, HX, HD, hbr⟩ := hrel
    have hzr := hbr.size
    by_cases hlt : k < n
    · have i1 : (k : Int) < (n : Int) := by omega
      have i2 : (0 : Int) ≤ (k : Int) := by omega
      obtain ⟨xs, hx⟩ : ∃ xs, b[k]? = some xs := ⟨_, List.getElem?_eq_getElem (by rw [HN.out]; exact hlt)⟩
      obtain ⟨b', o, sv, rfl, hbl, c0, hsv⟩ := (HS.out.below hbr).at hx
      obtain ⟨sa, sc, rfl, -, -⟩ := hsv.form
      have HXX := Lib.hid hx
      have hq : Below wr.heap.size wr (wr.alloc (.cells #[] 131)) := (Below.refl _ _).alloc (Nat.le_refl _) _
      obtain ⟨v5, w5, hrun, ho5, hb5⟩ := run_append_copy (sz := 2) (enc := Sp.enc) (by omega) (fun _ => rfl) (P := Tryd.prog) (w := wr.alloc (.cells #[] 131)) 86 86 131 j0 _ 16 Tryd.underlying86 hj hj0 hj1 hj2 rfl ⟨wr.heap.size, 0, none⟩ (litOwn 131 2 Sp.enc (base := wr.heap.size) (w := wr) (Nat.le_refl _)) hq.size (v := .slice sa xs.length sc) (xs := xs) (SlFr.at (hsv.below hq)) (by have := HE.out k xs hx; omega)
      replace hb5 : Below wr.heap.size wr w5 := hq.trans (hb5.mono hq.size)
      have hz5 := hb5.size
      obtain ⟨va, vc, rfl, -, -⟩ := (OwnSp.sps ho5).form
      have HB5 := Lib.hid hb5
      have HP5 := Lib.hid (PSp.of ho5 (Nat.le_refl _) hz5)
      have HV := Lib.hid (show vs.length ≤ 1048576 by have := HD.out.len; rw [List.length_take] at this; omega)
      clear hx hsv ho5 hb5 hq
      go_wp2_with (at_builtin; first | (refine wpList_append_run rfl _ _ 86 rfl rfl rfl hrun ?_) | refine wpList_append_lies _ rfl _ _ 26 rfl w.heap.size 86 i0 _ 1 24 Tryd.underlying26 hi hy0 hy1 hy2 rfl (by decide) _ vs.length (vs.flatMap enc1) rfl (World.ownsRow.alloc (OwnSl.kept HO.out HB5.out) _) ⟨w5.heap.size, 0, none⟩ 1 1 (enc1 (.slice va xs.length vc)) rfl rfl (cellsNew w5 (enc1 (.slice va xs.length vc)) _) ?c2 (by decide) ?c3 ?c4 ?c5 _ rfl ?_)
      case c2 => simp [Value.oneCell']
      case c3 => have := HV.out; simp only [maxLen]; omega
      case c4 => have := HV.out; omega
      case c5 => simp; omega
      intro g6 cap6 w6 hown6 hgrow6 hlies6 hlt6
      all_goals
        have hown7 : OwnSl w.heap.size 86 1 enc1 w6 (.slice (some ⟨g6, 0, none⟩) (vs.length + 1) cap6) (vs ++ [.slice va xs.length vc]) := by unfold OwnSl; simpa using hown6
        have hp6 := OwnG.push (P := PSp) (e := 86) (sz := 1) (enc := enc1) PSp.kind (w := wr) (w1 := w5) HD.out HX.out (by omega) HB5.out HP5.out (grown_old hgrow6) hown7 hlies6 hlt6 (by simp)
        have hB : Below w.heap.size w w6 := belGrown ((hbr.trans (HB5.out.mono hzr)).alloc (by omega) _) (World.ownsRow.alloc (OwnSl.kept HO.out HB5.out) _) hgrow6 (by simp; omega)
        have HP6 := Lib.hid hp6
        clear hown6 hown7 hgrow6 hlies6 hlt6 hp6
        go_wp2
        go_roundw
        case rel =>
          obtain ⟨vs6, ho6, hv6, hl6, hd6⟩ := HP6.out
          refine ⟨k + 1, vs6, by omega, by go_num, Lib.hid ho6, Lib.hid hv6, Lib.hid ?_, hB⟩
          rw [List.take_add_one, HXX.out]
          exact hd6
        case measure => simp [intOf]; omega
    · have hkn : k = n := by omega
      go_wp2
      go_ret
      refine ⟨u3, rfl, ⟨vs, HO.out, HX.out, hzr, ?_⟩, hbr⟩
      have := HD.out
      rwa [List.take_of_length_le (by rw [HN.out]; omega)] at this
theorem alloc3_cells (w : World) (A B C : Array Value) (t1 t2 t3 : Nat) :
    (∀ k, (((w.alloc (.cells A t1)).alloc (.cells B t2)).alloc (.cells C t3)).cell? ⟨w.heap.size, k, none⟩ = A[k]?) ∧ (∀ k, (((w.alloc (.cells A t1)).alloc (.cells B t2)).alloc (.cells C t3)).cell? ⟨w.heap.size + 1, k, none⟩ = B[k]? ∧ (((w.alloc (.cells A t1)).alloc (.cells B t2)).alloc (.cells C t3)).frozen? ⟨w.heap.size + 1, k, none⟩ = false) ∧
    (∀ k, (((w.alloc (.cells A t1)).alloc (.cells B t2)).alloc (.cells C t3)).cell? ⟨w.heap.size + 1 + 1, k, none⟩ = C[k]? ∧ (((w.alloc (.cells A t1)).alloc (.cells B t2)).alloc (.cells C t3)).frozen? ⟨w.heap.size + 1 + 1, k, none⟩ = false) := by
  refine ⟨fun k => ?_, fun k => ⟨?_, ?_⟩, fun k => ⟨?_, ?_⟩⟩ <;> go_simp
set_option maxHeartbeats 1000000 in
set_option maxRecDepth 100000 in
theorem ownBox_any {lo : Nat} (b : Bx) (v : Value) (w : World) (hs : Rws lo w v b) (hN : b.length ≤ 1048576) (he : ∀ (k : Nat) xs, b[k]? = some xs → xs.length ≤ 1048576) :
    Calls Tryd.prog 68 #[.agg #[v]] w fun e w' => ∃ v', e = .returned (.agg #[v']) ∧ GRw w' w.heap.size w'.heap.size v' b ∧ Below w.heap.size w w' := by
  obtain ⟨a, cap, rfl, hlc, hcm⟩ := hs.form
  obtain ⟨W, hW⟩ : ∃ W, (((w.alloc (.cells #[.slice a b.length cap] 28)).alloc (.cells #[.slice none 0 0] 28)).alloc (.cells #[.slice none 0 0] 28)) = W := ⟨_, rfl⟩
  have hal : Below w.heap.size w W := by rw [← hW]; (repeat' (first | with_reducible exact Below.refl _ _ | with_reducible assumption | with_reducible refine Below.setCell ?_ ?_ _ | with_reducible refine Below.alloc ?_ ?_ _ | with_reducible refine Below.drew ?_ | with_reducible refine belDrewN ?_ _ | with_reducible refine Below.trans ?_ (Below.mono (by assumption) ?_) | omega | (simp; omega) | (simp; done)))
  have qs : W.heap.size = w.heap.size + 1 + 1 + 1 := by rw [← hW]; simp
  have HA := alloc3_cells w #[.slice a b.length cap] #[.slice none 0 0] #[.slice none 0 0] 28 28 28
  rw [hW] at HA
  have g0 : W.cell? ⟨w.heap.size, 0, none⟩ = some (.slice a b.length cap) := by rw [HA.1 0]; rfl
  have g1 : W.cell? ⟨w.heap.size + 1, 0, none⟩ = some (.slice none 0 0) := by rw [(HA.2.1 0).1]; rfl
  have m1 : W.frozen? ⟨w.heap.size + 1, 0, none⟩ = false := (HA.2.1 0).2
  have g2 : W.cell? ⟨w.heap.size + 1 + 1, 0, none⟩ = some (.slice none 0 0) := by rw [(HA.2.2 0).1]; rfl
  have m2 : W.frozen? ⟨w.heap.size + 1 + 1, 0, none⟩ = false := (HA.2.2 0).2
  have HS := Lib.hid hs
  have HE := Lib.hid he
  clear HA hs he
  generalize hn : b.length = n at *
  have HN := Lib.hid hn
  clear hn
  go_enter Tryd.func68, Tryd.ntmps68
  go_wp2_with fail
  have hW2 : Below w.heap.size w (W.setCell ⟨w.heap.size + 1 + 1, 0, none⟩ (.slice a n cap)) := hal.setCell (by simp only; omega) _
  have hz2 : (W.setCell ⟨w.heap.size + 1 + 1, 0, none⟩ (.slice a n cap)).heap.size = w.heap.size + 1 + 1 + 1 := by simp [qs]
  have c1 : (W.setCell ⟨w.heap.size + 1 + 1, 0, none⟩ (.slice a n cap)).cell? ⟨w.heap.size + 1, 0, none⟩ = some (.slice none 0 0) := by rw [World.cell?_setCell_other _ _ _ _ (by simp)]; exact g1
  have c2 : (W.setCell ⟨w.heap.size + 1 + 1, 0, none⟩ (.slice a n cap)).cell? ⟨w.heap.size + 1 + 1, 0, none⟩ = some (.slice a n cap) := World.cell?_setCell_same' _ _ _ (by rw [g2]; rfl)
  refine (ownRows_any b _ _ (HS.out.below hW2) (by rw [HN.out]; exact hN) HE.out).mono ?_
  rintro e w3 ⟨v3, rfl, ho3, hb3⟩
  rw [hz2] at ho3
  have hz3 := hb3.size
  rw [hz2] at hz3
  have d1 := (hb3.cell (p := ⟨w.heap.size + 1, 0, none⟩) (by rw [hz2]; simp only; omega)).trans c1
  have e1 := (hb3.frozen (p := ⟨w.heap.size + 1, 0, none⟩) (by rw [hz2]; simp only; omega)).trans (by rw [World.frozen?_setCell]; exact m1 : _ = false)
  have d2 := (hb3.cell (p := ⟨w.heap.size + 1 + 1, 0, none⟩) (by rw [hz2]; simp only; omega)).trans c2
  have e2 := (hb3.frozen (p := ⟨w.heap.size + 1 + 1, 0, none⟩) (by rw [hz2]; simp only; omega)).trans (by rw [World.frozen?_setCell]; exact m2 : _ = false)
  obtain ⟨va, vc, hva, -, -⟩ := GRw.form ho3
  rw [HN.out] at hva
  subst hva
  have hw3 : Below w.heap.size w w3 := hW2.trans (hb3.mono (by rw [hz2]; omega))
  have HO3 := Lib.hid ho3
  clear hb3 c1 c2 g0 g1 m1 g2 m2 hz2 hW2 hal hW ho3
  go_wp2
  refine bodyPost_ret (v := .agg #[.slice va n vc]) ?_ rfl ⟨_, rfl, ?_, (hw3.setCell (p := ⟨w.heap.size + 1 + 1, 0, none⟩) (by simp only; omega) _).setCell (p := ⟨w.heap.size + 1, 0, none⟩) (by simp only; omega) _⟩
  · simp [results, Tryd.results68, go_sem, d1]
  · have h1 := OwnG.keepSet (u := .slice va n vc) (p := ⟨w.heap.size + 1 + 1, 0, none⟩) PSp.kind HO3.out (by simp only; omega)
    have h2 := OwnG.keepSet (u := .slice va n vc) (p := ⟨w.heap.size + 1, 0, none⟩) PSp.kind h1 (by simp only; omega)
    rw [show ((w3.setCell ⟨w.heap.size + 1 + 1, 0, none⟩ (.slice va n vc)).setCell ⟨w.heap.size + 1, 0, none⟩ (.slice va n vc)).heap.size = w3.heap.size from by simp]
    exact OwnG.low h2 (by omega)
set_option maxHeartbeats 1000000 in
set_option maxRecDepth 100000 in
theorem ownFlat_any {lo : Nat} (b : Bx) (p : Bool) (v : Value) (w : World) (hs : Rws lo w v b) (hN : b.length ≤ 1048576) (he : ∀ (k : Nat) xs, b[k]? = some xs → xs.length ≤ 1048576) :
    Calls Tryd.prog 135 #[.agg #[v, .bool p]] w fun e w' => ∃ v', e = .returned (.agg #[v', .bool p]) ∧ GRw w' w.heap.size w'.heap.size v' b ∧ Below w.heap.size w w' := by
  obtain ⟨a, cap, rfl, hlc, hcm⟩ := hs.form
  obtain ⟨W, hW⟩ : ∃ W, (((w.alloc (.cells #[.slice a b.length cap, .bool p] 74)).alloc (.cells #[.slice none 0 0, .bool false] 74)).alloc (.cells #[.slice none 0 0, .bool false] 74)) = W := ⟨_, rfl⟩
  have hal : Below w.heap.size w W := by rw [← hW]; (repeat' (first | with_reducible exact Below.refl _ _ | with_reducible assumption | with_reducible refine Below.setCell ?_ ?_ _ | with_reducible refine Below.alloc ?_ ?_ _ | with_reducible refine Below.drew ?_ | with_reducible refine belDrewN ?_ _ | with_reducible refine Below.trans ?_ (Below.mono (by assumption) ?_) | omega | (simp; omega) | (simp; done)))
  have qs : W.heap.size = w.heap.size + 1 + 1 + 1 := by rw [← hW]; simp
  have HA := alloc3_cells w #[.slice a b.length cap, .bool p] #[.slice none 0 0, .bool false] #[.slice none 0 0, .bool false] 74 74 74
  rw [hW] at HA
  have g0 : W.cell? ⟨w.heap.size, 0, none⟩ = some (.slice a b.length cap) := by rw [HA.1 0]; rfl
  have g1 : W.cell? ⟨w.heap.size + 1, 0, none⟩ = some (.slice none 0 0) := by rw [(HA.2.1 0).1]; rfl
  have m1 : W.frozen? ⟨w.heap.size + 1, 0, none⟩ = false := (HA.2.1 0).2
  have g2 : W.cell? ⟨w.heap.size + 1 + 1, 0, none⟩ = some (.slice none 0 0) := by rw [(HA.2.2 0).1]; rfl
  have m2 : W.frozen? ⟨w.heap.size + 1 + 1, 0, none⟩ = false := (HA.2.2 0).2
  have g0' : W.cell? ⟨w.heap.size, 1, none⟩ = some (.bool p) := by rw [HA.1 1]; rfl
  have g1' : W.cell? ⟨w.heap.size + 1, 1, none⟩ = some (.bool false) := by rw [(HA.2.1 1).1]; rfl
  have m1' : W.frozen? ⟨w.heap.size + 1, 1, none⟩ = false := (HA.2.1 1).2
  have g2' : W.cell? ⟨w.heap.size + 1 + 1, 1, none⟩ = some (.bool false) := by rw [(HA.2.2 1).1]; rfl
  have m2' : W.frozen? ⟨w.heap.size + 1 + 1, 1, none⟩ = false := (HA.2.2 1).2
  have HS := Lib.hid hs
  have HE := Lib.hid he
  clear HA hs he
  generalize hn : b.length = n at *
  have HN := Lib.hid hn
  clear hn
  go_enter Tryd.func135, Tryd.ntmps135
  go_wp2_with fail
  obtain ⟨W2, hW2⟩ : ∃ W2, (W.setCell ⟨w.heap.size + 1 + 1, 0, none⟩ (.slice a n cap)).setCell ⟨w.heap.size + 1 + 1, 1, none⟩ (.bool p) = W2 := ⟨_, rfl⟩
  have hB2 : Below w.heap.size w W2 := by rw [← hW2]; exact (hal.setCell (by simp only; omega) _).setCell (by simp only; omega) _
  have hz2 : W2.heap.size = w.heap.size + 1 + 1 + 1 := by rw [← hW2]; simp [qs]
  have c1 : W2.cell? ⟨w.heap.size + 1, 0, none⟩ = some (.slice none 0 0) := by rw [← hW2, World.cell?_setCell_other _ _ _ _ (by simp), World.cell?_setCell_other _ _ _ _ (by simp)]; exact g1
  have c1' : W2.cell? ⟨w.heap.size + 1, 1, none⟩ = some (.bool false) := by rw [← hW2, World.cell?_setCell_other _ _ _ _ (by simp), World.cell?_setCell_other _ _ _ _ (by simp)]; exact g1'
  have c2 : W2.cell? ⟨w.heap.size + 1 + 1, 0, none⟩ = some (.slice a n cap) := by rw [← hW2, World.cell?_setCell_other _ _ _ _ (by simp)]; exact World.cell?_setCell_same' _ _ _ (by rw [g2]; rfl)
  have c2' : W2.cell? ⟨w.heap.size + 1 + 1, 1, none⟩ = some (.bool p) := by rw [← hW2]; exact World.cell?_setCell_same' _ _ _ (by rw [World.cell?_setCell_other _ _ _ _ (by simp), g2']; rfl)
  have f1 : ∀ j, j < 2 → W2.frozen? ⟨w.heap.size + 1, j, none⟩ = false := fun j hj => by
    rw [← hW2, World.frozen?_setCell, World.frozen?_setCell]
    rcases (by omega : j = 0 ∨ j = 1) with rfl | rfl
    · exact m1
    · exact m1'
  have f2 : ∀ j, j < 2 → W2.frozen? ⟨w.heap.size + 1 + 1, j, none⟩ = false := fun j hj => by
    rw [← hW2, World.frozen?_setCell, World.frozen?_setCell]
    rcases (by omega : j = 0 ∨ j = 1) with rfl | rfl
    · exact m2
    · exact m2'
  rw [hW2]
  refine (ownBox_any b _ _ (HS.out.below hB2) (by rw [HN.out]; exact hN) HE.out).mono ?_
  rintro e w3 ⟨v3, rfl, ho3, hb3⟩
  rw [hz2] at ho3
  have hz3 := hb3.size
  rw [hz2] at hz3
  have d1 := (hb3.cell (p := ⟨w.heap.size + 1, 0, none⟩) (by rw [hz2]; simp only; omega)).trans c1
  have d1' := (hb3.cell (p := ⟨w.heap.size + 1, 1, none⟩) (by rw [hz2]; simp only; omega)).trans c1'
  have e1 := (hb3.frozen (p := ⟨w.heap.size + 1, 0, none⟩) (by rw [hz2]; simp only; omega)).trans (f1 0 (by omega))
  have e1' := (hb3.frozen (p := ⟨w.heap.size + 1, 1, none⟩) (by rw [hz2]; simp only; omega)).trans (f1 1 (by omega))
  have d2 := (hb3.cell (p := ⟨w.heap.size + 1 + 1, 0, none⟩) (by rw [hz2]; simp only; omega)).trans c2
  have d2' := (hb3.cell (p := ⟨w.heap.size + 1 + 1, 1, none⟩) (by rw [hz2]; simp only; omega)).trans c2'
  have e2 := (hb3.frozen (p := ⟨w.heap.size + 1 + 1, 0, none⟩) (by rw [hz2]; simp only; omega)).trans (f2 0 (by omega))
  obtain ⟨va, vc, hva, -, -⟩ := GRw.form ho3
  rw [HN.out] at hva
  subst hva
  have hw3 : Below w.heap.size w w3 := hB2.trans (hb3.mono (by rw [hz2]; omega))
  have HO3 := Lib.hid ho3
  clear hb3 c1 c2 c1' c2' g0 g0' g1 g1' m1 m1' g2 g2' m2 m2' hz2 hW2 hB2 hal hW ho3 f1 f2
  go_wp2
  refine bodyPost_ret (v := .agg #[.slice va n vc, .bool p]) ?_ rfl ⟨_, rfl, ?_, ((hw3.setCell (p := ⟨w.heap.size + 1 + 1, 0, none⟩) (by simp only; omega) _).setCell (p := ⟨w.heap.size + 1, 0, none⟩) (by simp only; omega) _).setCell (p := ⟨w.heap.size + 1, 1, none⟩) (by simp only; omega) _⟩
  · simp [results, Tryd.results135, go_sem, d1, d1']
  · have h1 := OwnG.keepSet (u := .slice va n vc) (p := ⟨w.heap.size + 1 + 1, 0, none⟩) PSp.kind HO3.out (by simp only; omega)
    have h2 := OwnG.keepSet (u := .slice va n vc) (p := ⟨w.heap.size + 1, 0, none⟩) PSp.kind h1 (by simp only; omega)
    have h3 := OwnG.keepSet (u := .bool p) (p := ⟨w.heap.size + 1, 1, none⟩) PSp.kind h2 (by simp only; omega)
    rw [show (((w3.setCell ⟨w.heap.size + 1 + 1, 0, none⟩ (.slice va n vc)).setCell ⟨w.heap.size + 1, 0, none⟩ (.slice va n vc)).setCell ⟨w.heap.size + 1, 1, none⟩ (.bool p)).heap.size = w3.heap.size from by simp]
    exact OwnG.low h3 (by omega)
set_option maxHeartbeats 2000000 in
set_option maxRecDepth 100000 in
theorem ownFlats_any {lo : Nat} (fs : List Ft) (v : Value) (w : World) (hs : Fts lo w v fs) (hN : ftN fs ≤ 1048576) :
    Calls Tryd.prog 82 #[v] w fun e w' => ∃ v', e = .returned v' ∧ GFs w' w.heap.size w'.heap.size v' fs ∧ Below w.heap.size w w' := by
  obtain ⟨a, cap, rfl, hlc, hcm⟩ := hs.form
  unfold maxLen at hcm
  obtain ⟨hn6, he⟩ := ftN_bound hN
  generalize hn : fs.length = n at *
  have HN := Lib.hid hn
  have HS := Lib.hid hs
  have HE := Lib.hid he
  obtain ⟨i0, hi, hy0, hy1, hy2⟩ := info_parts infoFt
  have HO0 := Lib.hid (litOwn 74 2 RF.enc (base := w.heap.size) (w := w) (Nat.le_refl _))
  have hal : Below w.heap.size w (w.alloc (.cells #[] 74)) := (Below.refl _ _).alloc (Nat.le_refl _) _
  clear hn hs he
  go_enter Tryd.func82, Tryd.ntmps82
  go_wp2_with fail
  go_loopw [3, 4] (fun o i wr => ∃ (k : Nat) (rs : List RF), k ≤ n ∧ i = .int .i64 k ∧ Hid (OwnSl w.heap.size 74 2 RF.enc wr o rs) ∧ Hid (∀ z, o.ownBlock = some z → z < wr.heap.size) ∧ Hid (OwnD (fun l h y z => PFg wr l h y z ∧ Off o.ownBlock l h) w.heap.size wr.heap.size rs (fs.take k)) ∧ Below w.heap.size w wr) (fun _ i _ => n - (intOf i).toNat)
  case atStart => exact ⟨0, [], by omega, rfl, HO0, Lib.hid (fun z hz => (World.ownsRow.lt HO0.out z hz).2), Lib.hid hal.size, hal⟩
  case round =>
    obtain ⟨k, rs, hk, rfl, HO, HX, HD, hbr⟩ := hrel
    have hzr := hbr.size
    by_cases hlt : k < n
    · have i1 : (k : Int) < (n : Int) := by omega
      have i2 : (0 : Int) ≤ (k : Int) := by omega
      obtain ⟨f, hx⟩ : ∃ f, fs[k]? = some f := ⟨_, List.getElem?_eq_getElem (by rw [HN.out]; exact hlt)⟩
      obtain ⟨b', o, sv, rfl, hbl, c0, c1, hsv⟩ := (HS.out.below hbr).at hx
      obtain ⟨hf1, hf2⟩ := bxN_bound (HE.out k f hx)
      obtain ⟨p, hp⟩ : ∃ p, f.acc = p := ⟨_, rfl⟩
      rw [hp] at c1
      have HPP := Lib.hid hp
      have HXX := Lib.hid hx
      have HSV := Lib.hid hsv
      have HF2 := Lib.hid hf2
      have HV := Lib.hid (show rs.length ≤ 1048576 by have := HD.out.len; rw [List.length_take] at this; omega)
      clear hx hsv hp hf2
      go_wp2_with fail
      refine (ownFlat_any f.box p sv wr HSV.out hf1 HF2.out).mono ?_
      rintro e w5 ⟨v5, rfl, ho5, hb5⟩
      have hz5 := hb5.size
      obtain ⟨va, vc, rfl, -, -⟩ := GRw.form ho5
      have HB5 := Lib.hid hb5
      have HP5 := Lib.hid (show PFg w5 wr.heap.size w5.heap.size ⟨.slice va f.box.length vc, p⟩ f from ⟨ho5, HPP.out.symm⟩)
      clear ho5 hb5
      go_wp2_with (at_builtin; refine wpList_append_lies _ rfl _ _ 37 rfl w.heap.size 74 i0 _ 2 32 Tryd.underlying37 hi hy0 hy1 hy2 rfl (by decide) _ rs.length (rs.flatMap RF.enc) rfl (World.ownsRow.alloc (OwnSl.kept HO.out HB5.out) _) ⟨w5.heap.size, 0, none⟩ 1 1 (RF.enc ⟨.slice va f.box.length vc, p⟩) rfl rfl (cellsNew w5 (RF.enc ⟨.slice va f.box.length vc, p⟩) _) ?c2 (by decide) ?c3 ?c4 ?c5 _ rfl ?_)
      case c2 => simp [Value.oneCell']
      case c3 => have := HV.out; simp only [maxLen]; omega
      case c4 => have := HV.out; omega
      case c5 => simp; omega
      intro g6 cap6 w6 hown6 hgrow6 hlies6 hlt6
      have hp6 := OwnG.push (P := PFg) (e := 74) (sz := 2) (enc := RF.enc) PFg.kind (w := wr) (w1 := w5) HD.out HX.out (by omega) HB5.out HP5.out (grown_old hgrow6) (OwnSl.pushed rfl hown6) hlies6 hlt6 (by simp)
      have hB : Below w.heap.size w w6 := belGrown ((hbr.trans (HB5.out.mono hzr)).alloc (by omega) _) (World.ownsRow.alloc (OwnSl.kept HO.out HB5.out) _) hgrow6 (by simp; omega)
      have HP6 := Lib.hid hp6
      clear hown6 hgrow6 hlies6 hlt6 hp6
      go_wp2
      go_roundw
      case rel =>
        obtain ⟨vs6, ho6, hv6, hl6, hd6⟩ := HP6.out
        refine ⟨k + 1, vs6, by omega, by go_num, Lib.hid ho6, Lib.hid hv6, Lib.hid ?_, hB⟩
        rw [List.take_add_one, HXX.out]
        exact hd6
      case measure => simp [intOf]; omega
    · have hkn : k = n := by omega
      go_wp2
      go_ret
      refine ⟨u3, rfl, ⟨rs, HO.out, HX.out, hzr, ?_⟩, hbr⟩
      have := HD.out
      rwa [List.take_of_length_le (by rw [HN.out]; omega)] at this
end Go.Proofs.YtnnmkdaioajkkaaDoor
