/- BoxMeet (both), BoxSame, BoxWithin and RegionLess (the program's). -/
import Derived.Test.YtajcogpfmpehkaaDoorNoX
import Derived.Test.YtajcogpfmpehkaaDoorNwX
import Derived.Test.YtajcogpfmpehkaaDoorMbW
import Derived.Test.YtajcogpfmpehkaaDoorMbI
import Derived.Test.YtajcogpfmpehkaaDoorMbMf
import Derived.Test.YtajcogpfmpehkaaDoorRgH
import Derived.Test.YtajcogpfmpehkaaDoorRgCL
import Derived.Test.YtajcogpfmpehkaaDoorDxBT
import Derived.Test.YtajcogpfmpehkaaDoorLvS
import Derived.Test.YtajcogpfmpehkaaDoorFnX
namespace Go.Proofs.YtajcogpfmpehkaaDoor
open Go.RowKit
def meetB (a b : Bx) : Option Bx := if bvalid (bmeet a b) then some (bmeet a b) else none
def meetV (a b : Bx) : Option Bx := if bvalid a && bvalid b then meetB a b else none
theorem meetV_yes {a b : Bx} (ha : bvalid a = true) (hb : bvalid b = true) : meetV a b = meetB a b := by unfold meetV; rw [ha, hb]; rfl
theorem meetV_no {a b : Bx} (h : bvalid a = false ∨ bvalid b = false) : meetV a b = none := by
  unfold meetV
  rcases h with h | h
  · rw [h]; rfl
  · rw [h, Bool.and_false]; rfl
theorem meetV_some {a b c : Bx} (h : meetV a b = some c) : c = bmeet a b ∧ bvalid c = true := by
  unfold meetV at h
  split at h
  · unfold meetB at h
    split at h
    · rename_i h2
      cases h; exact ⟨rfl, h2⟩
    · cases h
  · cases h
theorem meetV_valid {a b c : Bx} (h : meetV a b = some c) : bvalid c = true := (meetV_some h).2
theorem meet_o {lo lo' : Nat} {a b : Bx} {v0 v1 v2 v3 u0 u1 u2 u3 : Value} {w : World} {R : Option Bx} (h : meetB a b = R) (ht : Tab w) (hs : All2 (Sps lo w) [v0, v1, v2, v3] a) (hu : All2 (Sps lo' w) [u0, u1, u2, u3] b) (ha : bvalid a = true) (hb : bvalid b = true) :
    Calls Tryd.prog 71 #[.agg #[v0, v1, v2, v3], .agg #[u0, u1, u2, u3]] w fun e w' => ∃ a0 n0 p0 a1 n1 p1 a2 n2 p2 a3 n3 p3, e = .returned (.tuple #[.agg #[.slice a0 n0 p0, .slice a1 n1 p1, .slice a2 n2 p2, .slice a3 n3 p3], .bool R.isSome]) ∧ (∀ c, R = some c → All2 (Sps 0 w') [.slice a0 n0 p0, .slice a1 n1 p1, .slice a2 n2 p2, .slice a3 n3 p3] c) ∧ Below w.heap.size w w' := by
  have hR : R.isSome = bvalid (bmeet a b) ∧ ∀ c, R = some c → c = bmeet a b ∧ bvalid (bmeet a b) = true := by
    subst h
    unfold meetB
    cases e : bvalid (bmeet a b)
    · exact ⟨rfl, fun c h => by simp at h⟩
    · exact ⟨rfl, fun c h => by simp at h; exact ⟨h.symm, rfl⟩⟩
  rw [hR.1]
  refine (meet_any a b v0 v1 v2 v3 u0 u1 u2 u3 w ht hs hu ha hb).mono ?_
  rintro e w' ⟨a0, n0, p0, a1, n1, p1, a2, n2, p2, a3, n3, p3, rfl, h1, h2⟩
  refine ⟨a0, n0, p0, a1, n1, p1, a2, n2, p2, a3, n3, p3, rfl, fun c hc => ?_, h2⟩
  obtain ⟨e1, e2⟩ := hR.2 c hc
  rw [e1]
  exact (h1 e2).mono (fun _ _ g => Sps.mono g (Nat.zero_le _))
set_option maxHeartbeats 2000000 in
set_option maxRecDepth 100000 in
theorem implBMt_e {lo lo' : Nat} {a b : Bx} {R : Option Bx} {u v : Value} {w : World} (hs : Rws lo w u a) (hu : Rws lo' w v b) (ht : Tab w) (h : meetV a b = R) :
    Calls Tryd.prog 30 #[.agg #[u], .agg #[v]] w fun e w' => ∃ z, e = .returned (.agg #[z]) ∧ GRw w' w.heap.size w'.heap.size z (R.getD []) ∧ Below w.heap.size w w' := by
  obtain ⟨ua, uc, rfl, -, -⟩ := hs.form
  obtain ⟨va, vc, rfl, -, -⟩ := hu.form
  obtain ⟨ra, hra⟩ : ∃ r, bvalid a = r := ⟨_, rfl⟩
  obtain ⟨rb, hrb⟩ : ∃ r, bvalid b = r := ⟨_, rfl⟩
  have HRA := Lib.hid hra
  have HRB := Lib.hid hrb
  have HS := Lib.hid hs
  have HU := Lib.hid hu
  have HR := Lib.hid h
  clear hs hu h
  have hal : Below w.heap.size w (((w.alloc (.cells #[.slice ua a.length uc] 32)).alloc (.cells #[.slice va b.length vc] 32)).alloc (.cells #[.slice none 0 0] 32)) := by (repeat' (first | with_reducible exact Below.refl _ _ | with_reducible assumption | with_reducible refine Below.setCell ?_ ?_ _ | with_reducible refine Below.alloc ?_ ?_ _ | with_reducible refine Below.drew ?_ | with_reducible refine belDrewN ?_ _ | with_reducible refine Below.trans ?_ (Below.mono (by assumption) ?_) | omega | (simp; omega) | (simp; done)))
  have HA3 := alloc3_cells w #[.slice ua a.length uc] #[.slice va b.length vc] #[.slice none 0 0] 32 32 32
  obtain ⟨W, hW⟩ : ∃ W, ((w.alloc (.cells #[.slice ua a.length uc] 32)).alloc (.cells #[.slice va b.length vc] 32)).alloc (.cells #[.slice none 0 0] 32) = W := ⟨_, rfl⟩
  have qs : W.heap.size = w.heap.size + 1 + 1 + 1 := by rw [← hW]; simp
  rw [hW] at HA3 hal
  have q0 : W.cell? ⟨w.heap.size, 0, none⟩ = some (.slice ua a.length uc) := by rw [HA3.1 0]; rfl
  have p0 : W.cell? ⟨w.heap.size + 1, 0, none⟩ = some (.slice va b.length vc) := by rw [(HA3.2.1 0).1]; rfl
  have r0 : W.cell? ⟨w.heap.size + 1 + 1, 0, none⟩ = some (.slice none 0 0) := by rw [(HA3.2.2 0).1]; rfl
  have n0 : W.frozen? ⟨w.heap.size + 1 + 1, 0, none⟩ = false := (HA3.2.2 0).2
  have HC := Lib.hid (And.intro q0 (And.intro p0 (And.intro r0 n0)))
  generalize a.length = la at *
  generalize b.length = lb at *
  clear HA3
  go_enter Tryd.func30, Tryd.ntmps30
  go_wp2_with fail
  refine (implBV_b (HS.out.below hal) (ht.below hal) hra).mono ?_
  rintro e w1 ⟨rfl, hb1⟩
  have hz1 := hb1.size
  have hw1 := hal.trans (hb1.mono hal.size)
  have p1 := (hb1.cell (p := ⟨w.heap.size + 1, 0, none⟩) (by simp only; omega)).trans HC.out.2.1
  have r1 := (hb1.cell (p := ⟨w.heap.size + 1 + 1, 0, none⟩) (by simp only; omega)).trans HC.out.2.2.1
  have n1 := (hb1.frozen (p := ⟨w.heap.size + 1 + 1, 0, none⟩) (by simp only; omega)).trans HC.out.2.2.2
  clear q0 p0 r0 n0 hW hra
  cases ra
  · have HM := Lib.hid (show R = none by rw [← HR.out]; exact meetV_no (.inl HRA.out))
    have hwW : Below w.heap.size w (w1.setCell ⟨w.heap.size + 1 + 1, 0, none⟩ (.slice none 0 0)) := hw1.setCell (by simp only; omega) _
    go_wp2
    refine bodyPost_ret (v := .agg #[.slice none 0 0]) ?_ rfl ⟨_, rfl, ?_, hwW⟩
    · simp [results, Tryd.results30, go_sem, r1]
    · rw [HM.out]; exact GRw.nil _ hwW.size
  · go_wp2_with fail
    refine (implBV_b (HU.out.below hw1) (ht.below hw1) hrb).mono ?_
    rintro e w2 ⟨rfl, hb2⟩
    have hbW2 := hb1.trans (hb2.mono hz1)
    have hz2 := hbW2.size
    have hw2 := hal.trans (hbW2.mono hal.size)
    have cq2 := (hbW2.cell (p := ⟨w.heap.size, 0, none⟩) (by simp only; omega)).trans HC.out.1
    have cp2 := (hbW2.cell (p := ⟨w.heap.size + 1, 0, none⟩) (by simp only; omega)).trans HC.out.2.1
    have cr2 := (hbW2.cell (p := ⟨w.heap.size + 1 + 1, 0, none⟩) (by simp only; omega)).trans HC.out.2.2.1
    have cn2 := (hbW2.frozen (p := ⟨w.heap.size + 1 + 1, 0, none⟩) (by simp only; omega)).trans HC.out.2.2.2
    clear p1 r1 n1 hb1 hb2 hrb
    cases rb
    · have HM := Lib.hid (show R = none by rw [← HR.out]; exact meetV_no (.inr HRB.out))
      have hwW : Below w.heap.size w (w2.setCell ⟨w.heap.size + 1 + 1, 0, none⟩ (.slice none 0 0)) := hw2.setCell (by simp only; omega) _
      clear cq2 cp2
      go_wp2
      refine bodyPost_ret (v := .agg #[.slice none 0 0]) ?_ rfl ⟨_, rfl, ?_, hwW⟩
      · simp [results, Tryd.results30, go_sem, cr2]
      · rw [HM.out]; exact GRw.nil _ hwW.size
    · have HMB := Lib.hid (show meetB a b = R by rw [← HR.out]; exact (meetV_yes HRA.out HRB.out).symm)
      have h4a := (bvalid_four HRA.out).1
      have h4b := (bvalid_four HRB.out).1
      have hl2 : w.heap.size < w2.heap.size := by omega
      have hl2' : w.heap.size + 1 < w2.heap.size := by omega
      go_wp2_with fail
      refine wp_region_turn2 (W := w2) 9 [BIs (.agg #[.slice ua la uc]), (fun w v => ∃ z0 z1 z2 z3, v = .agg #[z0, z1, z2, z3] ∧ All2 (Sps 0 w) [z0, z1, z2, z3] a), BIs (.agg #[.slice va lb vc]), (fun w v => ∃ z0 z1 z2 z3, v = .agg #[z0, z1, z2, z3] ∧ All2 (Sps 0 w) [z0, z1, z2, z3] b), (fun w v => ∃ z, v = .tuple #[z, .bool R.isSome] ∧ MG R w z), (fun w v => ∃ z, v = .tuple #[z, .bool R.isSome] ∧ MG R w z), (fun w z => MG R w z), BIs (.bool R.isSome), (MP w2)] (bof [BIs (.agg #[.slice ua la uc]), (fun _ _ => True), BIs (.agg #[.slice va lb vc]), (fun _ _ => True), (fun _ v => ∃ z, v = .tuple #[z, .bool R.isSome] ∧ True), (fun _ v => ∃ z, v = .tuple #[z, .bool R.isSome] ∧ True), (fun _ _ => True), BIs (.bool R.isSome), (MQ R w2), (fun _ _ => True), BIs (.bool R.isSome)]) (by kernel_rfl) (by decide) (fun u => by simp only [frU, Act.put, List.setIfInBounds_toArray, List.set_cons_succ, List.set_cons_zero, Nat.zero_add, Nat.reduceAdd]; exact rfl) (by kernel_rfl) ⟨bst_is _, (fun _ _ _ hb ⟨z0, z1, z2, z3, h1, h2⟩ => ⟨z0, z1, z2, z3, h1, h2.mono (fun _ _ g => g.below hb)⟩), bst_is _, (fun _ _ _ hb ⟨z0, z1, z2, z3, h1, h2⟩ => ⟨z0, z1, z2, z3, h1, h2.mono (fun _ _ g => g.below hb)⟩), (fun _ _ _ hb ⟨z, h1, h2⟩ => ⟨z, h1, h2.below hb⟩), (fun _ _ _ hb ⟨z, h1, h2⟩ => ⟨z, h1, h2.below hb⟩), (fun _ _ _ hb h => h.below hb), bst_is _, (mst_mp _), trivial⟩ ?_ ?_; (exact ⟨stT rfl (by decide) (by kernel_rfl) (fun u w3 hC hd hI Q K hK => by (have z0 := (hC.cell (p := ⟨w.heap.size, 0, none⟩) hl2).trans cq2; go_step; exact hK _ _ rfl (Below.refl _ _) rfl)), stT rfl (by decide) (by kernel_rfl) (fun u w3 hC hd hI Q K hK => by (have hu := bis (w := w3) (hd 0 rfl); rw [hu] at hK ⊢; clear hu; go_step; refine (sidesOf_any a _ w _ HS.out (hw2.trans (hC.mono hw2.size)) h4a).mono ?_; rintro e w4 ⟨a0, n0, p0, a1, n1, p1, a2, n2, p2, a3, n3, p3, rfl, ha4, hb4⟩; exact hK _ _ rfl hb4 ⟨_, _, _, _, rfl, ha4.mono (fun _ _ g => (g.below ((hw2.trans (hC.mono hw2.size)).trans (hb4.mono (hw2.trans (hC.mono hw2.size)).size))).mono (Nat.zero_le _))⟩)), stT rfl (by decide) (by kernel_rfl) (fun u w3 hC hd hI Q K hK => by (have z0 := (hC.cell (p := ⟨w.heap.size + 1, 0, none⟩) hl2').trans cp2; go_step; exact hK _ _ rfl (Below.refl _ _) rfl)), stT rfl (by decide) (by kernel_rfl) (fun u w3 hC hd hI Q K hK => by (have hu := bis (w := w3) (hd 2 rfl); rw [hu] at hK ⊢; clear hu; go_step; refine (sidesOf_any b _ w _ HU.out (hw2.trans (hC.mono hw2.size)) h4b).mono ?_; rintro e w4 ⟨a0, n0, p0, a1, n1, p1, a2, n2, p2, a3, n3, p3, rfl, ha4, hb4⟩; exact hK _ _ rfl hb4 ⟨_, _, _, _, rfl, ha4.mono (fun _ _ g => (g.below ((hw2.trans (hC.mono hw2.size)).trans (hb4.mono (hw2.trans (hC.mono hw2.size)).size))).mono (Nat.zero_le _))⟩)), stT rfl (by decide) (by kernel_rfl) (fun u w3 hC hd hI Q K hK => by (obtain ⟨x0, x1, x2, x3, hu, hx⟩ := hd 1 rfl; rw [hu] at hK ⊢; clear hu; obtain ⟨y0, y1, y2, y3, hu, hy⟩ := hd 3 rfl; rw [hu] at hK ⊢; clear hu; go_step; refine (meet_o HMB.out (ht.below (hw2.trans (hC.mono hw2.size))) hx hy HRA.out HRB.out).mono ?_; rintro e w4 ⟨a0, n0, p0, a1, n1, p1, a2, n2, p2, a3, n3, p3, rfl, ho4, hb4⟩; exact hK _ _ rfl hb4 ⟨_, rfl, a0, n0, p0, a1, n1, p1, a2, n2, p2, a3, n3, p3, rfl, ho4⟩)), stT rfl (by decide) (by kernel_rfl) (fun u w3 hC hd hI Q K hK => by (obtain ⟨z, hu, hz⟩ := hd 4 rfl; rw [hu] at hK ⊢; clear hu; go_step; exact hK _ _ rfl (Below.refl _ _) ⟨z, rfl, hz⟩)), stT rfl (by decide) (by kernel_rfl) (fun u w3 hC hd hI Q K hK => by (obtain ⟨z, hu, hz⟩ := hd 5 rfl; rw [hu] at hK ⊢; clear hu; go_step; exact hK _ _ rfl (Below.refl _ _) hz)), stTf rfl (by decide) (fun u w3 hC hd Q K hK => by (obtain ⟨z, hu, hz⟩ := hd 5 rfl; rw [hu] at hK ⊢; clear hu; go_step; exact hK _ _ rfl (Below.refl _ _) rfl)) (fun u w3 hd Q K hK => by (dsimp only at hK ⊢; obtain ⟨z, hu, hz⟩ := hd 5 rfl; rw [hu] at hK ⊢; clear hu; go_step; exact hK _ rfl rfl)), stT rfl (by decide) (by kernel_rfl) (fun u w3 hC hd hI Q K hK => by (go_step; exact hK _ _ rfl ((Below.refl _ _).alloc (Nat.le_refl _) _) (MP.new _ hC.size))), stTt rfl (by decide) (fun u w3 hC hd Q K hK => by (dsimp only at hK ⊢; obtain ⟨qq, hu, hq1, hq2, hqf, g0, g1, g2, g3⟩ := hd 8 rfl; rw [hu] at hK ⊢; have hkeep := hu; clear hu; obtain ⟨a0, n0, p0, a1, n1, p1, a2, n2, p2, a3, n3, p3, hu, hz⟩ := hd 6 rfl; rw [hu] at hK ⊢; clear hu; have e0 := hqf 0; have e1 := hqf 1; have e2 := hqf 2; have e3 := hqf 3; go_step; have hQ := MQ.mk8 hC hq1 hq2 g0 g1 g2 g3 hz; refine hK _ _ rfl (fun j hj h => ?_) ?_; (match j, hj, h with | 0, _, h => exact h | 1, _, _ => exact trivial | 2, _, h => exact h | 3, _, _ => exact trivial | 4, _, h => exact (let ⟨z, g1, _⟩ := h; ⟨z, g1, trivial⟩) | 5, _, h => exact (let ⟨z, g1, _⟩ := h; ⟨z, g1, trivial⟩) | 6, _, _ => exact trivial | 7, _, h => exact h | 8, _, h => exact (show MQ R w2 _ _ by rw [hkeep]; exact hQ) | j + 9, hj, _ => exact absurd hj (by omega)); exact trivial)), stTb rfl (by decide) (by kernel_rfl) (fun u w3 hd Q K hK => by (dsimp only at hK ⊢; have hu := bis (w := w3) (hd 7 rfl); rw [hu] at hK ⊢; clear hu; go_step; exact hK _ rfl rfl)), trivial⟩); intro u w9 hF; rw [bis (w := w9) (hF 0 (by decide))]; rw [bis (w := w9) (hF 2 (by decide))]; rw [bis (w := w9) (hF 7 (by decide))]; have h8 := hF 8 (by decide); generalize u 8 = v8 at *; rw [bis (w := w9) (hF 10 (by decide))]; generalize u 1 = vx1 at *; generalize u 3 = vx3 at *; generalize u 4 = vx4 at *; generalize u 5 = vx5 at *; generalize u 6 = vx6 at *; generalize u 9 = vx9 at *; clear hF
      obtain ⟨qq, a0, n0, p0, a1, n1, p1, a2, n2, p2, a3, n3, p3, hv8, hq1, hq2, g0, g1, g2, g3, hz, hb9⟩ := h8
      subst hv8
      have hz9 := hb9.size
      have hw9 := hw2.trans (hb9.mono hw2.size)
      have r9 := (hb9.cell (p := ⟨w.heap.size + 1 + 1, 0, none⟩) (by simp only; omega)).trans cr2
      have n9 := (hb9.frozen (p := ⟨w.heap.size + 1 + 1, 0, none⟩) (by simp only; omega)).trans cn2
      have HZ := Lib.hid hz
      have HRV := Lib.hid (show ∀ c, R = some c → bvalid c = true from fun c hc => meetV_valid (by rw [HR.out]; exact hc))
      clear hz cr2 cn2 cp2 cq2 hb9 h4a h4b
      cases R with
      | none =>
        have hwW : Below w.heap.size w (w9.setCell ⟨w.heap.size + 1 + 1, 0, none⟩ (.slice none 0 0)) := hw9.setCell (by simp only; omega) _
        go_wp2
        refine bodyPost_ret (v := .agg #[.slice none 0 0]) ?_ rfl ⟨_, rfl, GRw.nil _ hwW.size, hwW⟩
        simp [results, Tryd.results30, go_sem, r9]
      | some c =>
        have hall := HZ.out c rfl
        have hcv := HRV.out c rfl
        have HLE := Lib.hid (fun (k : Nat) (xs : List Sp) (hx : c[k]? = some xs) => (show xs.length ≤ 1000000 by have := bvalid_lens hcv k xs hx; omega))
        have HCC := Lib.hid hall
        clear hall
        go_wp2_with fail
        refine (box_any c _ _ _ _ w9 w9 HCC.out (Below.refl _ _) HLE.out).mono ?_
        rintro e w10 ⟨v10, rfl, ho10, hb10⟩
        obtain ⟨va10, vc10, rfl, -, -⟩ := ho10.rws.form
        have hw10 := hw9.trans (hb10.mono hw9.size)
        have hz10 := hb10.size
        have r10 := (hb10.cell (p := ⟨w.heap.size + 1 + 1, 0, none⟩) (by simp only; omega)).trans r9
        have n10 := (hb10.frozen (p := ⟨w.heap.size + 1 + 1, 0, none⟩) (by simp only; omega)).trans n9
        have HG := Lib.hid ho10.g
        have hwW : Below w.heap.size w (w10.setCell ⟨w.heap.size + 1 + 1, 0, none⟩ (.slice va10 c.length vc10)) := hw10.setCell (by simp only; omega) _
        clear ho10 hb10 r9 n9
        go_wp2
        refine bodyPost_ret (v := .agg #[.slice va10 c.length vc10]) ?_ rfl ⟨_, rfl, ?_, hwW⟩
        · simp [results, Tryd.results30, go_sem, r10]
        · have h1 := OwnG.keepSet (u := .slice va10 c.length vc10) (p := ⟨w.heap.size + 1 + 1, 0, none⟩) PSp.kind HG.out (by simp only; omega)
          rw [show (w10.setCell ⟨w.heap.size + 1 + 1, 0, none⟩ (.slice va10 c.length vc10)).heap.size = w10.heap.size from by simp]
          exact OwnG.low h1 (by omega)
theorem bsame_one {a b : Bx} (h : (bempty a || bempty b) = true) : bsame a b = (bempty a && bempty b) := by unfold bsame; rw [if_pos h]
theorem bsame_two {a b : Bx} (ha : bempty a = false) (hb : bempty b = false) : bsame a b = decide (a = b) := by unfold bsame; rw [ha, hb]; rfl
set_option maxHeartbeats 4000000 in
set_option maxRecDepth 100000 in
theorem same_any {lo lo' : Nat} (a b : Bx) (v0 v1 v2 v3 u0 u1 u2 u3 : Value) (w : World) (hs : All2 (Sps lo w) [v0, v1, v2, v3] a) (hu : All2 (Sps lo' w) [u0, u1, u2, u3] b) :
    Calls Tryd.prog 72 #[.agg #[v0, v1, v2, v3], .agg #[u0, u1, u2, u3]] w fun e w' => e = .returned (.bool (bsame a b)) ∧ Below w.heap.size w w' := by
  obtain ⟨ea, hea⟩ : ∃ em, bempty a = em := ⟨_, rfl⟩
  obtain ⟨eb, heb⟩ : ∃ em, bempty b = em := ⟨_, rfl⟩
  have HEA := Lib.hid hea
  have HEB := Lib.hid heb
  have HS := Lib.hid hs
  have HU := Lib.hid hu
  have L4 := Lib.hid (And.intro hs.1.symm hu.1.symm)
  clear hs hu hea heb
  obtain ⟨W, hW⟩ : ∃ W, ((w.alloc (.cells #[v0, v1, v2, v3] 89)).alloc (.cells #[u0, u1, u2, u3] 89)) = W := ⟨_, rfl⟩
  have hal : Below w.heap.size w W := by rw [← hW]; (repeat' (first | with_reducible exact Below.refl _ _ | with_reducible assumption | with_reducible refine Below.setCell ?_ ?_ _ | with_reducible refine Below.alloc ?_ ?_ _ | with_reducible refine Below.drew ?_ | with_reducible refine belDrewN ?_ _ | with_reducible refine Below.trans ?_ (Below.mono (by assumption) ?_) | omega | (simp; omega) | (simp; done)))
  have HA2 := alloc2_cf w #[v0, v1, v2, v3] #[u0, u1, u2, u3] 89 89
  rw [hW] at HA2
  have hq : ∀ (k : Nat) v, [v0, v1, v2, v3][k]? = some v → W.cell? ⟨w.heap.size, k, none⟩ = some v := fun k v hk => by rw [(HA2.1 k).1]; simpa using hk
  have hp : ∀ (k : Nat) v, [u0, u1, u2, u3][k]? = some v → W.cell? ⟨w.heap.size + 1, k, none⟩ = some v := fun k v hk => by rw [(HA2.2 k).1]; simpa using hk
  have q0 := hq 0 _ rfl
  have p0 := hp 0 _ rfl
  have q1 := hq 1 _ rfl
  have p1 := hp 1 _ rfl
  have q2 := hq 2 _ rfl
  have p2 := hp 2 _ rfl
  have q3 := hq 3 _ rfl
  have p3 := hp 3 _ rfl
  have HQ := Lib.hid hq
  have HP := Lib.hid hp
  have qs : W.heap.size = w.heap.size + 1 + 1 := by rw [← hW]; simp
  clear HA2 hq hp
  go_enter Tryd.func72, Tryd.ntmps72
  go_wp2_with fail
  refine (empty_b (HS.out.mono (fun _ _ g => g.below hal)) HEA.out).mono ?_
  rintro e w1 ⟨rfl, hb1⟩
  have hw1 := hal.trans (hb1.mono hal.size)
  have hz1 := hb1.size
  have q0a := (hb1.cell (p := ⟨w.heap.size, 0, none⟩) (by simp only; omega)).trans q0
  have q1a := (hb1.cell (p := ⟨w.heap.size, 1, none⟩) (by simp only; omega)).trans q1
  have q2a := (hb1.cell (p := ⟨w.heap.size, 2, none⟩) (by simp only; omega)).trans q2
  have q3a := (hb1.cell (p := ⟨w.heap.size, 3, none⟩) (by simp only; omega)).trans q3
  have p0a := (hb1.cell (p := ⟨w.heap.size + 1, 0, none⟩) (by simp only; omega)).trans p0
  have p1a := (hb1.cell (p := ⟨w.heap.size + 1, 1, none⟩) (by simp only; omega)).trans p1
  have p2a := (hb1.cell (p := ⟨w.heap.size + 1, 2, none⟩) (by simp only; omega)).trans p2
  have p3a := (hb1.cell (p := ⟨w.heap.size + 1, 3, none⟩) (by simp only; omega)).trans p3
  clear q0 p0 q1 p1 q2 p2 q3 p3
  cases ea
  · go_wp2_with fail
    refine (empty_b (HU.out.mono (fun _ _ g => g.below hw1)) HEB.out).mono ?_
    rintro e w2 ⟨rfl, hb2⟩
    have hB2 := hb1.trans (hb2.mono hz1)
    have hz2 := hB2.size
    have hw2 := hal.trans (hB2.mono hal.size)
    have q0b := (hb2.cell (p := ⟨w.heap.size, 0, none⟩) (by simp only; omega)).trans q0a
    have q1b := (hb2.cell (p := ⟨w.heap.size, 1, none⟩) (by simp only; omega)).trans q1a
    have q2b := (hb2.cell (p := ⟨w.heap.size, 2, none⟩) (by simp only; omega)).trans q2a
    have q3b := (hb2.cell (p := ⟨w.heap.size, 3, none⟩) (by simp only; omega)).trans q3a
    have p0b := (hb2.cell (p := ⟨w.heap.size + 1, 0, none⟩) (by simp only; omega)).trans p0a
    have p1b := (hb2.cell (p := ⟨w.heap.size + 1, 1, none⟩) (by simp only; omega)).trans p1a
    have p2b := (hb2.cell (p := ⟨w.heap.size + 1, 2, none⟩) (by simp only; omega)).trans p2a
    have p3b := (hb2.cell (p := ⟨w.heap.size + 1, 3, none⟩) (by simp only; omega)).trans p3a
    clear q0a p0a q1a p1a q2a p2a q3a p3a
    cases eb
    · have HB2 := Lib.hid (bsame_two HEA.out HEB.out)
      clear q0b p0b q1b p1b q2b p2b q3b p3b
      go_wp2_with fail
      go_loopw [5, 18] (fun _ i wr => ∃ k : Nat, k ≤ 4 ∧ i = .int .i64 k ∧ Hid (∀ j, j < k → a[j]? = b[j]?) ∧ Below W.heap.size W wr) (fun _ i _ => 4 - (intOf i).toNat)
      case atStart => exact ⟨0, by omega, rfl, Lib.hid (fun j hj => by omega), hB2⟩
      case round =>
        obtain ⟨k, hk4, rfl, HG, hbr⟩ := hrel
        have hzr := hbr.size
        have hwr := hal.trans (hbr.mono hal.size)
        by_cases hlt : k < 4
        · have i1 : (k : Int) < 4 := by omega
          have i2 : (0 : Int) ≤ (k : Int) := by omega
          obtain ⟨x, hx⟩ : ∃ x, a[k]? = some x := ⟨_, List.getElem?_eq_getElem (by have := L4.out.1; simp at this; omega)⟩
          obtain ⟨y, hy⟩ : ∃ y, b[k]? = some y := ⟨_, List.getElem?_eq_getElem (by have := L4.out.2; simp at this; omega)⟩
          obtain ⟨sv, hsv, hss⟩ := HS.out.left hx
          obtain ⟨tv, htv, htt⟩ := HU.out.left hy
          have d0 : wr.cell? ⟨w.heap.size, k, none⟩ = some sv := (hbr.cell (p := ⟨w.heap.size, k, none⟩) (by simp only; omega)).trans (HQ.out k sv hsv)
          have d1 : wr.cell? ⟨w.heap.size + 1, k, none⟩ = some tv := (hbr.cell (p := ⟨w.heap.size + 1, k, none⟩) (by simp only; omega)).trans (HP.out k tv htv)
          have HSV := Lib.hid (hss.below hwr)
          have HTV := Lib.hid (htt.below hwr)
          obtain ⟨r, hr⟩ : ∃ r, decide (x = y) = r := ⟨_, rfl⟩
          have HRR := Lib.hid hr
          have HXY := Lib.hid (And.intro hx hy)
          clear hx hy hss htt hsv htv hr
          go_wp2_with fail
          (refine wp_region_bel (W := wr) [BIs (.int .i64 (k : Int)), BIs (.pointer (some ⟨w.heap.size, k, none⟩)), BIs (sv), BIs (.int .i64 (k : Int)), BIs (.pointer (some ⟨w.heap.size + 1, k, none⟩)), BIs (tv), (BIs (.bool r)), BIs (.bool (!r))] (by kernel_rfl) (fun u => by simp only [frU, Act.put, List.setIfInBounds_toArray, List.set_cons_succ, List.set_cons_zero, Nat.zero_add, Nat.reduceAdd]; exact rfl) (by kernel_rfl) ⟨bst_is _, bst_is _, bst_is _, bst_is _, bst_is _, bst_is _, (bst_is _), bst_is _, trivial⟩ ?_ ?_; exact ⟨stB rfl (fun u w3 hC hd Q K hK => by (go_step; exact hK _ _ rfl (Below.refl _ _) rfl)), stB rfl (fun u w3 hC hd Q K hK => by (have hu := bis (w := w3) (hd 0 rfl); rw [hu] at hK ⊢; clear hu; go_step; exact hK _ _ rfl (Below.refl _ _) rfl)), stB rfl (fun u w3 hC hd Q K hK => by (have hu := bis (w := w3) (hd 1 rfl); rw [hu] at hK ⊢; clear hu; have z0 := (hC.cell (p := ⟨w.heap.size, k, none⟩) (by simp only; omega)).trans d0; go_step; exact hK _ _ rfl (Below.refl _ _) rfl)), stB rfl (fun u w3 hC hd Q K hK => by (go_step; exact hK _ _ rfl (Below.refl _ _) rfl)), stB rfl (fun u w3 hC hd Q K hK => by (have hu := bis (w := w3) (hd 3 rfl); rw [hu] at hK ⊢; clear hu; go_step; exact hK _ _ rfl (Below.refl _ _) rfl)), stB rfl (fun u w3 hC hd Q K hK => by (have hu := bis (w := w3) (hd 4 rfl); rw [hu] at hK ⊢; clear hu; have z0 := (hC.cell (p := ⟨w.heap.size + 1, k, none⟩) (by simp only; omega)).trans d1; go_step; exact hK _ _ rfl (Below.refl _ _) rfl)), stB rfl (fun u w3 hC hd Q K hK => by (have hu := bis (w := w3) (hd 2 rfl); rw [hu] at hK ⊢; clear hu; have hu := bis (w := w3) (hd 5 rfl); rw [hu] at hK ⊢; clear hu; go_step; refine (slicesEq_b (HSV.out.below hC) (HTV.out.below hC) HRR.out).mono ?_; rintro e w4 ⟨rfl, hb4⟩; exact hK _ _ rfl hb4 rfl)), stB rfl (fun u w3 hC hd Q K hK => by (have hu := bis (w := w3) (hd 6 rfl); rw [hu] at hK ⊢; clear hu; go_step; exact hK _ _ rfl (Below.refl _ _) rfl)), trivial⟩); intro u w9 hb_w9 hF; rw [bis (w := w9) (hF 0 (by decide))]; rw [bis (w := w9) (hF 1 (by decide))]; rw [bis (w := w9) (hF 2 (by decide))]; rw [bis (w := w9) (hF 3 (by decide))]; rw [bis (w := w9) (hF 4 (by decide))]; rw [bis (w := w9) (hF 5 (by decide))]; generalize u 6 = vx6 at *; rw [bis (w := w9) (hF 7 (by decide))]; clear hF
          have hb9 : Below W.heap.size W w9 := hbr.trans (hb_w9.mono hzr)
          have hw9 := hal.trans (hb9.mono hal.size)
          clear hb_w9 d0 d1
          cases r
          · have HN := Lib.hid (show bsame a b = false by
              rw [HB2.out]
              exact decide_eq_false (fun e => by
                have h1 := HXY.out.1
                rw [e, HXY.out.2] at h1
                exact of_decide_eq_false HRR.out (Option.some.inj h1).symm))
            go_wp2
            go_ret
            exact ⟨ret_bool HN.out.symm, hw9⟩
          · have HG2 := Lib.hid (show ∀ j, j < k + 1 → a[j]? = b[j]? from fun j hj => by
              by_cases e : j = k
              · subst e; rw [HXY.out.1, HXY.out.2, of_decide_eq_true HRR.out]
              · exact HG.out j (by omega))
            go_wp2
            go_roundw
            case rel => exact ⟨k + 1, by omega, by go_num, HG2, hb9⟩
            case measure => simp [intOf]; omega
        · have hkn : k = 4 := by omega
          have HY := Lib.hid (show bsame a b = true by
            rw [HB2.out]
            refine decide_eq_true (List.ext_getElem? fun j => ?_)
            by_cases e : j < 4
            · exact HG.out j (by omega)
            · have h1 := L4.out.1
              have h2 := L4.out.2
              simp at h1 h2
              rw [List.getElem?_eq_none (by omega), List.getElem?_eq_none (by omega)])
          subst hkn
          go_wp2
          go_ret
          exact ⟨ret_bool HY.out.symm, hwr⟩
    · have HY := Lib.hid (show bsame a b = false by rw [bsame_one (by rw [HEB.out, Bool.or_true]), HEA.out]; rfl)
      go_wp2_with fail
      refine (empty_b (HS.out.mono (fun _ _ g => g.below hw2)) HEA.out).mono ?_
      rintro e w3 ⟨rfl, hb3⟩
      go_wp2
      go_ret
      exact ⟨ret_bool HY.out.symm, hw2.trans (hb3.mono hw2.size)⟩
  · have HY := Lib.hid (show bsame a b = eb by rw [bsame_one (by rw [HEA.out]; rfl), HEA.out, HEB.out]; rfl)
    go_wp2_with fail
    refine (empty_b (HS.out.mono (fun _ _ g => g.below hw1)) HEA.out).mono ?_
    rintro e w2 ⟨rfl, hb2⟩
    have hB2 := hb1.trans (hb2.mono hz1)
    have hz2 := hB2.size
    have hw2 := hal.trans (hB2.mono hal.size)
    have p0b := (hb2.cell (p := ⟨w.heap.size + 1, 0, none⟩) (by simp only; omega)).trans p0a
    have p1b := (hb2.cell (p := ⟨w.heap.size + 1, 1, none⟩) (by simp only; omega)).trans p1a
    have p2b := (hb2.cell (p := ⟨w.heap.size + 1, 2, none⟩) (by simp only; omega)).trans p2a
    have p3b := (hb2.cell (p := ⟨w.heap.size + 1, 3, none⟩) (by simp only; omega)).trans p3a
    clear q0a p0a q1a p1a q2a p2a q3a p3a
    go_wp2_with fail
    refine (empty_b (HU.out.mono (fun _ _ g => g.below hw2)) HEB.out).mono ?_
    rintro e w3 ⟨rfl, hb3⟩
    go_wp2
    go_ret
    exact ⟨ret_bool HY.out.symm, hw2.trans (hb3.mono hw2.size)⟩
theorem same_b {lo lo' : Nat} {a b : Bx} {v0 v1 v2 v3 u0 u1 u2 u3 : Value} {w : World} {r : Bool} (hs : All2 (Sps lo w) [v0, v1, v2, v3] a) (hu : All2 (Sps lo' w) [u0, u1, u2, u3] b) (h : bsame a b = r) :
    Calls Tryd.prog 72 #[.agg #[v0, v1, v2, v3], .agg #[u0, u1, u2, u3]] w fun e w' => e = .returned (.bool r) ∧ Below w.heap.size w w' := by
  subst h
  exact same_any a b v0 v1 v2 v3 u0 u1 u2 u3 w hs hu
set_option maxHeartbeats 2000000 in
set_option maxRecDepth 100000 in
theorem implBSm_b {lo lo' : Nat} {a b : Bx} {u v : Value} {w : World} {r : Bool} (hs : Rws lo w u a) (hu : Rws lo' w v b) (ht : Tab w) (h : (bvalid a && bvalid b && bsame a b) = r) :
    Calls Tryd.prog 31 #[.agg #[u], .agg #[v]] w fun e w' => e = .returned (.bool r) ∧ Below w.heap.size w w' := by
  obtain ⟨ua, uc, rfl, -, -⟩ := hs.form
  obtain ⟨va, vc, rfl, -, -⟩ := hu.form
  obtain ⟨ra, hra⟩ : ∃ r, bvalid a = r := ⟨_, rfl⟩
  obtain ⟨rb, hrb⟩ : ∃ r, bvalid b = r := ⟨_, rfl⟩
  have HRA := Lib.hid hra
  have HRB := Lib.hid hrb
  have HS := Lib.hid hs
  have HU := Lib.hid hu
  have HT := Lib.hid ht
  have HR := Lib.hid h
  clear hs hu h ht
  obtain ⟨W, hW⟩ : ∃ W, (w.alloc (.cells #[.slice ua a.length uc] 32)).alloc (.cells #[.slice va b.length vc] 32) = W := ⟨_, rfl⟩
  have hal : Below w.heap.size w W := by rw [← hW]; (repeat' (first | with_reducible exact Below.refl _ _ | with_reducible assumption | with_reducible refine Below.setCell ?_ ?_ _ | with_reducible refine Below.alloc ?_ ?_ _ | with_reducible refine Below.drew ?_ | with_reducible refine belDrewN ?_ _ | with_reducible refine Below.trans ?_ (Below.mono (by assumption) ?_) | omega | (simp; omega) | (simp; done)))
  have HA2 := alloc2_cf w #[.slice ua a.length uc] #[.slice va b.length vc] 32 32
  rw [hW] at HA2
  have qs : W.heap.size = w.heap.size + 1 + 1 := by rw [← hW]; simp
  have q0 : W.cell? ⟨w.heap.size, 0, none⟩ = some (.slice ua a.length uc) := by rw [(HA2.1 0).1]; rfl
  have p0 : W.cell? ⟨w.heap.size + 1, 0, none⟩ = some (.slice va b.length vc) := by rw [(HA2.2 0).1]; rfl
  have HS2 := Lib.hid (HS.out.below hal)
  have HU2 := Lib.hid (HU.out.below hal)
  have HT2 := Lib.hid (HT.out.below hal)
  generalize a.length = la at *
  generalize b.length = lb at *
  clear HA2
  have hl1 : w.heap.size < W.heap.size := by omega
  have hl2 : w.heap.size + 1 < W.heap.size := by omega
  go_enter Tryd.func31, Tryd.ntmps31
  rw [hra, hrb] at HR
  cases ra
  · obtain rfl : r = false := by rw [← HR.out]; rfl
    go_wp2_with fail
    (refine wp_region_belH (W := W) [BIs (.agg #[.slice ua la uc]), (BIs (.bool false)), BIs (.bool false), BIs undef, BIs undef, BIs (.bool false), BIs (.bool false), BIs undef, BIs undef, BIs undef, BIs undef, BIs undef, BIs (.bool false), BIs (.bool false)] (by kernel_rfl) (fun u => by simp only [frU, Act.put, List.setIfInBounds_toArray, List.set_cons_succ, List.set_cons_zero, Nat.zero_add, Nat.reduceAdd]; exact rfl) (by kernel_rfl) ⟨bst_is _, (bst_is _), bst_is _, bst_is _, bst_is _, bst_is _, bst_is _, bst_is _, bst_is _, bst_is _, bst_is _, bst_is _, bst_is _, bst_is _, trivial⟩ ?_ ?_; exact ⟨stH (fun u w3 hC hd => .inl ⟨rfl, fun Q K hK => by (have z0 := (hC.cell (p := ⟨w.heap.size, 0, none⟩) hl1).trans q0; go_step; exact hK _ _ rfl (Below.refl _ _) rfl)⟩), stH (fun u w3 hC hd => .inl ⟨rfl, fun Q K hK => by (have hu := bis (w := w3) (hd 0 rfl); rw [hu] at hK ⊢; clear hu; go_step; refine (implBV_b (HS2.out.below hC) (HT2.out.below hC) HRA.out).mono ?_; rintro e w4 ⟨rfl, hb4⟩; exact hK _ _ rfl hb4 rfl)⟩), stH (fun u w3 hC hd => .inl ⟨rfl, fun Q K hK => by (have hu := bis (w := w3) (hd 1 rfl); rw [hu] at hK ⊢; clear hu; go_step; exact hK _ _ rfl (Below.refl _ _) rfl)⟩), stH (fun u w3 hC hd => .inr ⟨by (have hu := bis (w := w3) (hd 2 rfl); rw [hu]; rfl), rfl⟩), stH (fun u w3 hC hd => .inr ⟨by (have hu := bis (w := w3) (hd 2 rfl); rw [hu]; rfl), rfl⟩), stH (fun u w3 hC hd => .inl ⟨rfl, fun Q K hK => by (have hu := bis (w := w3) (hd 2 rfl); rw [hu] at hK ⊢; clear hu; go_step; exact hK _ _ rfl (Below.refl _ _) rfl)⟩), stH (fun u w3 hC hd => .inl ⟨rfl, fun Q K hK => by (have hu := bis (w := w3) (hd 5 rfl); rw [hu] at hK ⊢; clear hu; go_step; exact hK _ _ rfl (Below.refl _ _) rfl)⟩), stH (fun u w3 hC hd => .inr ⟨by (have hu := bis (w := w3) (hd 6 rfl); rw [hu]; rfl), rfl⟩), stH (fun u w3 hC hd => .inr ⟨by (have hu := bis (w := w3) (hd 6 rfl); rw [hu]; rfl), rfl⟩), stH (fun u w3 hC hd => .inr ⟨by (have hu := bis (w := w3) (hd 6 rfl); rw [hu]; rfl), rfl⟩), stH (fun u w3 hC hd => .inr ⟨by (have hu := bis (w := w3) (hd 6 rfl); rw [hu]; rfl), rfl⟩), stH (fun u w3 hC hd => .inr ⟨by (have hu := bis (w := w3) (hd 6 rfl); rw [hu]; rfl), rfl⟩), stH (fun u w3 hC hd => .inl ⟨rfl, fun Q K hK => by (have hu := bis (w := w3) (hd 6 rfl); rw [hu] at hK ⊢; clear hu; go_step; exact hK _ _ rfl (Below.refl _ _) rfl)⟩), stH (fun u w3 hC hd => .inl ⟨rfl, fun Q K hK => by (have hu := bis (w := w3) (hd 12 rfl); rw [hu] at hK ⊢; clear hu; go_step; exact hK _ _ rfl (Below.refl _ _) rfl)⟩), trivial⟩); intro u w9 hb_w9 hF; rw [bis (w := w9) (hF 0 (by decide))]; generalize u 1 = vx1 at *; rw [bis (w := w9) (hF 2 (by decide))]; rw [bis (w := w9) (hF 3 (by decide))]; rw [bis (w := w9) (hF 4 (by decide))]; rw [bis (w := w9) (hF 5 (by decide))]; rw [bis (w := w9) (hF 6 (by decide))]; rw [bis (w := w9) (hF 7 (by decide))]; rw [bis (w := w9) (hF 8 (by decide))]; rw [bis (w := w9) (hF 9 (by decide))]; rw [bis (w := w9) (hF 10 (by decide))]; rw [bis (w := w9) (hF 11 (by decide))]; rw [bis (w := w9) (hF 12 (by decide))]; rw [bis (w := w9) (hF 13 (by decide))]; clear hF
    go_wp2
    go_ret
    exact ⟨rfl, hal.trans (hb_w9.mono hal.size)⟩
  · cases rb
    · obtain rfl : r = false := by rw [← HR.out]; rfl
      go_wp2_with fail
      (refine wp_region_belH (W := W) [BIs (.agg #[.slice ua la uc]), (BIs (.bool true)), BIs (.bool true), BIs (.agg #[.slice va lb vc]), (BIs (.bool false)), BIs (.bool false), BIs (.bool false), BIs undef, BIs undef, BIs undef, BIs undef, BIs undef, BIs (.bool false), BIs (.bool false)] (by kernel_rfl) (fun u => by simp only [frU, Act.put, List.setIfInBounds_toArray, List.set_cons_succ, List.set_cons_zero, Nat.zero_add, Nat.reduceAdd]; exact rfl) (by kernel_rfl) ⟨bst_is _, (bst_is _), bst_is _, bst_is _, (bst_is _), bst_is _, bst_is _, bst_is _, bst_is _, bst_is _, bst_is _, bst_is _, bst_is _, bst_is _, trivial⟩ ?_ ?_; exact ⟨stH (fun u w3 hC hd => .inl ⟨rfl, fun Q K hK => by (have z0 := (hC.cell (p := ⟨w.heap.size, 0, none⟩) hl1).trans q0; go_step; exact hK _ _ rfl (Below.refl _ _) rfl)⟩), stH (fun u w3 hC hd => .inl ⟨rfl, fun Q K hK => by (have hu := bis (w := w3) (hd 0 rfl); rw [hu] at hK ⊢; clear hu; go_step; refine (implBV_b (HS2.out.below hC) (HT2.out.below hC) HRA.out).mono ?_; rintro e w4 ⟨rfl, hb4⟩; exact hK _ _ rfl hb4 rfl)⟩), stH (fun u w3 hC hd => .inl ⟨rfl, fun Q K hK => by (have hu := bis (w := w3) (hd 1 rfl); rw [hu] at hK ⊢; clear hu; go_step; exact hK _ _ rfl (Below.refl _ _) rfl)⟩), stH (fun u w3 hC hd => .inl ⟨by (have hu := bis (w := w3) (hd 2 rfl); rw [hu]; rfl), fun Q K hK => by (have z0 := (hC.cell (p := ⟨w.heap.size + 1, 0, none⟩) hl2).trans p0; go_step; exact hK _ _ rfl (Below.refl _ _) rfl)⟩), stH (fun u w3 hC hd => .inl ⟨by (have hu := bis (w := w3) (hd 2 rfl); rw [hu]; rfl), fun Q K hK => by (have hu := bis (w := w3) (hd 3 rfl); rw [hu] at hK ⊢; clear hu; go_step; refine (implBV_b (HU2.out.below hC) (HT2.out.below hC) HRB.out).mono ?_; rintro e w4 ⟨rfl, hb4⟩; exact hK _ _ rfl hb4 rfl)⟩), stH (fun u w3 hC hd => .inl ⟨rfl, fun Q K hK => by (have hu := bis (w := w3) (hd 2 rfl); rw [hu] at hK ⊢; clear hu; have hu := bis (w := w3) (hd 4 rfl); rw [hu] at hK ⊢; clear hu; go_step; exact hK _ _ rfl (Below.refl _ _) rfl)⟩), stH (fun u w3 hC hd => .inl ⟨rfl, fun Q K hK => by (have hu := bis (w := w3) (hd 5 rfl); rw [hu] at hK ⊢; clear hu; go_step; exact hK _ _ rfl (Below.refl _ _) rfl)⟩), stH (fun u w3 hC hd => .inr ⟨by (have hu := bis (w := w3) (hd 6 rfl); rw [hu]; rfl), rfl⟩), stH (fun u w3 hC hd => .inr ⟨by (have hu := bis (w := w3) (hd 6 rfl); rw [hu]; rfl), rfl⟩), stH (fun u w3 hC hd => .inr ⟨by (have hu := bis (w := w3) (hd 6 rfl); rw [hu]; rfl), rfl⟩), stH (fun u w3 hC hd => .inr ⟨by (have hu := bis (w := w3) (hd 6 rfl); rw [hu]; rfl), rfl⟩), stH (fun u w3 hC hd => .inr ⟨by (have hu := bis (w := w3) (hd 6 rfl); rw [hu]; rfl), rfl⟩), stH (fun u w3 hC hd => .inl ⟨rfl, fun Q K hK => by (have hu := bis (w := w3) (hd 6 rfl); rw [hu] at hK ⊢; clear hu; go_step; exact hK _ _ rfl (Below.refl _ _) rfl)⟩), stH (fun u w3 hC hd => .inl ⟨rfl, fun Q K hK => by (have hu := bis (w := w3) (hd 12 rfl); rw [hu] at hK ⊢; clear hu; go_step; exact hK _ _ rfl (Below.refl _ _) rfl)⟩), trivial⟩); intro u w9 hb_w9 hF; rw [bis (w := w9) (hF 0 (by decide))]; generalize u 1 = vx1 at *; rw [bis (w := w9) (hF 2 (by decide))]; rw [bis (w := w9) (hF 3 (by decide))]; generalize u 4 = vx4 at *; rw [bis (w := w9) (hF 5 (by decide))]; rw [bis (w := w9) (hF 6 (by decide))]; rw [bis (w := w9) (hF 7 (by decide))]; rw [bis (w := w9) (hF 8 (by decide))]; rw [bis (w := w9) (hF 9 (by decide))]; rw [bis (w := w9) (hF 10 (by decide))]; rw [bis (w := w9) (hF 11 (by decide))]; rw [bis (w := w9) (hF 12 (by decide))]; rw [bis (w := w9) (hF 13 (by decide))]; clear hF
      go_wp2
      go_ret
      exact ⟨rfl, hal.trans (hb_w9.mono hal.size)⟩
    · have HB := Lib.hid (show bsame a b = r by rw [← HR.out]; rfl)
      go_wp2_with fail
      (refine wp_region_belG (W := W) [BIs (.agg #[.slice ua la uc]), (BIs (.bool true)), BIs (.bool true), BIs (.agg #[.slice va lb vc]), (BIs (.bool true)), BIs (.bool true), BIs (.bool true), BIs (.agg #[.slice ua la uc]), (fun w v => ∃ z0 z1 z2 z3, v = .agg #[z0, z1, z2, z3] ∧ All2 (Sps 0 w) [z0, z1, z2, z3] a), BIs (.agg #[.slice va lb vc]), (fun w v => ∃ z0 z1 z2 z3, v = .agg #[z0, z1, z2, z3] ∧ All2 (Sps 0 w) [z0, z1, z2, z3] b), (BIs (.bool r)), BIs (.bool r), BIs (.bool r)] (by kernel_rfl) (fun u => by simp only [frU, Act.put, List.setIfInBounds_toArray, List.set_cons_succ, List.set_cons_zero, Nat.zero_add, Nat.reduceAdd]; exact rfl) (by kernel_rfl) ⟨bst_is _, (bst_is _), bst_is _, bst_is _, (bst_is _), bst_is _, bst_is _, bst_is _, (fun _ _ _ hb ⟨z0, z1, z2, z3, h1, h2⟩ => ⟨z0, z1, z2, z3, h1, h2.mono (fun _ _ g => g.below hb)⟩), bst_is _, (fun _ _ _ hb ⟨z0, z1, z2, z3, h1, h2⟩ => ⟨z0, z1, z2, z3, h1, h2.mono (fun _ _ g => g.below hb)⟩), (bst_is _), bst_is _, bst_is _, trivial⟩ ?_ ?_; exact ⟨stG (fun u w3 hC hd => ⟨rfl, fun Q K hK => by (have z0 := (hC.cell (p := ⟨w.heap.size, 0, none⟩) hl1).trans q0; go_step; exact hK _ _ rfl (Below.refl _ _) rfl)⟩), stG (fun u w3 hC hd => ⟨rfl, fun Q K hK => by (have hu := bis (w := w3) (hd 0 rfl); rw [hu] at hK ⊢; clear hu; go_step; refine (implBV_b (HS2.out.below hC) (HT2.out.below hC) HRA.out).mono ?_; rintro e w4 ⟨rfl, hb4⟩; exact hK _ _ rfl hb4 rfl)⟩), stG (fun u w3 hC hd => ⟨rfl, fun Q K hK => by (have hu := bis (w := w3) (hd 1 rfl); rw [hu] at hK ⊢; clear hu; go_step; exact hK _ _ rfl (Below.refl _ _) rfl)⟩), stG (fun u w3 hC hd => ⟨by (have hu := bis (w := w3) (hd 2 rfl); rw [hu]; rfl), fun Q K hK => by (have z0 := (hC.cell (p := ⟨w.heap.size + 1, 0, none⟩) hl2).trans p0; go_step; exact hK _ _ rfl (Below.refl _ _) rfl)⟩), stG (fun u w3 hC hd => ⟨by (have hu := bis (w := w3) (hd 2 rfl); rw [hu]; rfl), fun Q K hK => by (have hu := bis (w := w3) (hd 3 rfl); rw [hu] at hK ⊢; clear hu; go_step; refine (implBV_b (HU2.out.below hC) (HT2.out.below hC) HRB.out).mono ?_; rintro e w4 ⟨rfl, hb4⟩; exact hK _ _ rfl hb4 rfl)⟩), stG (fun u w3 hC hd => ⟨rfl, fun Q K hK => by (have hu := bis (w := w3) (hd 2 rfl); rw [hu] at hK ⊢; clear hu; have hu := bis (w := w3) (hd 4 rfl); rw [hu] at hK ⊢; clear hu; go_step; exact hK _ _ rfl (Below.refl _ _) rfl)⟩), stG (fun u w3 hC hd => ⟨rfl, fun Q K hK => by (have hu := bis (w := w3) (hd 5 rfl); rw [hu] at hK ⊢; clear hu; go_step; exact hK _ _ rfl (Below.refl _ _) rfl)⟩), stG (fun u w3 hC hd => ⟨by (have hu := bis (w := w3) (hd 6 rfl); rw [hu]; rfl), fun Q K hK => by (have z0 := (hC.cell (p := ⟨w.heap.size, 0, none⟩) hl1).trans q0; go_step; exact hK _ _ rfl (Below.refl _ _) rfl)⟩), stG (fun u w3 hC hd => ⟨by (have hu := bis (w := w3) (hd 6 rfl); rw [hu]; rfl), fun Q K hK => by (have hu := bis (w := w3) (hd 7 rfl); rw [hu] at hK ⊢; clear hu; go_step; refine (sidesOf_any a _ _ _ (HS2.out.below hC) (Below.refl _ _) (bvalid_four HRA.out).1).mono ?_; rintro e w4 ⟨a0, n0, p0, a1, n1, p1, a2, n2, p2, a3, n3, p3, rfl, ha4, hb4⟩; exact hK _ _ rfl hb4 ⟨_, _, _, _, rfl, ha4.mono (fun _ _ g => (g.below hb4).mono (Nat.zero_le _))⟩)⟩), stG (fun u w3 hC hd => ⟨by (have hu := bis (w := w3) (hd 6 rfl); rw [hu]; rfl), fun Q K hK => by (have z0 := (hC.cell (p := ⟨w.heap.size + 1, 0, none⟩) hl2).trans p0; go_step; exact hK _ _ rfl (Below.refl _ _) rfl)⟩), stG (fun u w3 hC hd => ⟨by (have hu := bis (w := w3) (hd 6 rfl); rw [hu]; rfl), fun Q K hK => by (have hu := bis (w := w3) (hd 9 rfl); rw [hu] at hK ⊢; clear hu; go_step; refine (sidesOf_any b _ _ _ (HU2.out.below hC) (Below.refl _ _) (bvalid_four HRB.out).1).mono ?_; rintro e w4 ⟨a0, n0, p0, a1, n1, p1, a2, n2, p2, a3, n3, p3, rfl, ha4, hb4⟩; exact hK _ _ rfl hb4 ⟨_, _, _, _, rfl, ha4.mono (fun _ _ g => (g.below hb4).mono (Nat.zero_le _))⟩)⟩), stG (fun u w3 hC hd => ⟨by (have hu := bis (w := w3) (hd 6 rfl); rw [hu]; rfl), fun Q K hK => by (obtain ⟨x0, x1, x2, x3, hu, hx⟩ := hd 8 rfl; rw [hu] at hK ⊢; clear hu; obtain ⟨y0, y1, y2, y3, hu, hy⟩ := hd 10 rfl; rw [hu] at hK ⊢; clear hu; go_step; refine (same_b hx hy HB.out).mono ?_; rintro e w4 ⟨rfl, hb4⟩; exact hK _ _ rfl hb4 rfl)⟩), stG (fun u w3 hC hd => ⟨rfl, fun Q K hK => by (have hu := bis (w := w3) (hd 6 rfl); rw [hu] at hK ⊢; clear hu; have hu := bis (w := w3) (hd 11 rfl); rw [hu] at hK ⊢; clear hu; go_step; exact hK _ _ rfl (Below.refl _ _) rfl)⟩), stG (fun u w3 hC hd => ⟨rfl, fun Q K hK => by (have hu := bis (w := w3) (hd 12 rfl); rw [hu] at hK ⊢; clear hu; go_step; exact hK _ _ rfl (Below.refl _ _) rfl)⟩), trivial⟩); intro u w9 hb_w9 hF; rw [bis (w := w9) (hF 0 (by decide))]; generalize u 1 = vx1 at *; rw [bis (w := w9) (hF 2 (by decide))]; rw [bis (w := w9) (hF 3 (by decide))]; generalize u 4 = vx4 at *; rw [bis (w := w9) (hF 5 (by decide))]; rw [bis (w := w9) (hF 6 (by decide))]; rw [bis (w := w9) (hF 7 (by decide))]; generalize u 8 = vx8 at *; rw [bis (w := w9) (hF 9 (by decide))]; generalize u 10 = vx10 at *; generalize u 11 = vx11 at *; rw [bis (w := w9) (hF 12 (by decide))]; rw [bis (w := w9) (hF 13 (by decide))]; clear hF
      go_wp2
      go_ret
      exact ⟨rfl, hal.trans (hb_w9.mono hal.size)⟩
theorem alloc3_cf (w : World) (A B C : Array Value) (t1 t2 t3 : Nat) :
    (∀ k, (((w.alloc (.cells A t1)).alloc (.cells B t2)).alloc (.cells C t3)).cell? ⟨w.heap.size, k, none⟩ = A[k]? ∧ (((w.alloc (.cells A t1)).alloc (.cells B t2)).alloc (.cells C t3)).frozen? ⟨w.heap.size, k, none⟩ = false) ∧ (∀ k, (((w.alloc (.cells A t1)).alloc (.cells B t2)).alloc (.cells C t3)).cell? ⟨w.heap.size + 1, k, none⟩ = B[k]? ∧ (((w.alloc (.cells A t1)).alloc (.cells B t2)).alloc (.cells C t3)).frozen? ⟨w.heap.size + 1, k, none⟩ = false) ∧
    (∀ k, (((w.alloc (.cells A t1)).alloc (.cells B t2)).alloc (.cells C t3)).cell? ⟨w.heap.size + 1 + 1, k, none⟩ = C[k]? ∧ (((w.alloc (.cells A t1)).alloc (.cells B t2)).alloc (.cells C t3)).frozen? ⟨w.heap.size + 1 + 1, k, none⟩ = false) := by
  refine ⟨fun k => ⟨?_, ?_⟩, fun k => ⟨?_, ?_⟩, fun k => ⟨?_, ?_⟩⟩ <;> go_simp
def regless (b : Bx) (xs : List Bx) : Option (List Bx) := if bvalid b && rvalid xs then blessB b xs else none
theorem l10Meet_w {lo lo' : Nat} {a b c : Bx} {u v : Value} {w : World} (h : bmeet a b = c) (hs : Rws lo w u a) (ht : Rws lo' w v b) (ha : bvalid a = true) (hb : bvalid b = true) :
    Calls Tryd.prog 46 #[.agg #[u], .agg #[v]] w fun e w' => ∃ v', e = .returned (.agg #[v']) ∧ Rws w.heap.size w' v' c ∧ Below w.heap.size w w' := by
  subst h
  refine (l10Meet_any a b u v w hs ht (bvalid_four ha).1 (bvalid_four hb).1 (bvalid_len2 ha) (bvalid_len2 hb)).mono ?_
  rintro e w' ⟨v', rfl, h1, h2⟩
  exact ⟨v', rfl, GRw.rws h1, h2⟩
set_option maxHeartbeats 4000000 in
set_option maxRecDepth 100000 in
theorem specBMt_e {lo lo' : Nat} {a b : Bx} {R : Option Bx} {u v : Value} {w : World} (hs : Rws lo w u a) (hu : Rws lo' w v b) (hla : a.length ≤ 1000) (hlb : b.length ≤ 1000) (hea : ∀ (k : Nat) xs, a[k]? = some xs → xs.length ≤ 1000) (heb : ∀ (k : Nat) xs, b[k]? = some xs → xs.length ≤ 1000) (h : meetV a b = R) :
    Calls Tryd.prog 90 #[.agg #[u], .agg #[v]] w fun e w' => ∃ z, e = .returned (.agg #[z]) ∧ Rws w.heap.size w' z (R.getD []) ∧ Below w.heap.size w w' := by
  obtain ⟨ua, uc, rfl, -, -⟩ := hs.form
  obtain ⟨va, vc, rfl, -, -⟩ := hu.form
  obtain ⟨ra, hra⟩ : ∃ r, bvalid a = r := ⟨_, rfl⟩
  obtain ⟨rb, hrb⟩ : ∃ r, bvalid b = r := ⟨_, rfl⟩
  have HRA := Lib.hid hra
  have HRB := Lib.hid hrb
  have HS := Lib.hid hs
  have HU := Lib.hid hu
  have HR := Lib.hid h
  have HEA := Lib.hid (fun (k : Nat) (xs : List Sp) (hx : a[k]? = some xs) => (show xs.length ≤ 1048576 by have := hea k xs hx; omega))
  have HEB := Lib.hid (fun (k : Nat) (xs : List Sp) (hx : b[k]? = some xs) => (show xs.length ≤ 1048576 by have := heb k xs hx; omega))
  have hNA : a.length ≤ 1048576 := by omega
  have hNB : b.length ≤ 1048576 := by omega
  clear hs hu h hea heb
  obtain ⟨W, hW⟩ : ∃ W, ((w.alloc (.cells #[.slice ua a.length uc] 32)).alloc (.cells #[.slice va b.length vc] 32)).alloc (.cells #[.slice none 0 0] 32) = W := ⟨_, rfl⟩
  have hal : Below w.heap.size w W := by rw [← hW]; (repeat' (first | with_reducible exact Below.refl _ _ | with_reducible assumption | with_reducible refine Below.setCell ?_ ?_ _ | with_reducible refine Below.alloc ?_ ?_ _ | with_reducible refine Below.drew ?_ | with_reducible refine belDrewN ?_ _ | with_reducible refine Below.trans ?_ (Below.mono (by assumption) ?_) | omega | (simp; omega) | (simp; done)))
  have HA3 := alloc3_cf w #[.slice ua a.length uc] #[.slice va b.length vc] #[.slice none 0 0] 32 32 32
  have qs : W.heap.size = w.heap.size + 1 + 1 + 1 := by rw [← hW]; simp
  rw [hW] at HA3
  have q0 : W.cell? ⟨w.heap.size, 0, none⟩ = some (.slice ua a.length uc) := by rw [(HA3.1 0).1]; rfl
  have m0 : W.frozen? ⟨w.heap.size, 0, none⟩ = false := (HA3.1 0).2
  have p0 : W.cell? ⟨w.heap.size + 1, 0, none⟩ = some (.slice va b.length vc) := by rw [(HA3.2.1 0).1]; rfl
  have o0 : W.frozen? ⟨w.heap.size + 1, 0, none⟩ = false := (HA3.2.1 0).2
  have r0 : W.cell? ⟨w.heap.size + 1 + 1, 0, none⟩ = some (.slice none 0 0) := by rw [(HA3.2.2 0).1]; rfl
  have n0 : W.frozen? ⟨w.heap.size + 1 + 1, 0, none⟩ = false := (HA3.2.2 0).2
  clear HA3
  go_enter Tryd.func90, Tryd.ntmps90
  go_wp2_with fail
  refine (ownBox_any a _ _ (HS.out.below hal) hNA HEA.out).mono ?_
  rintro e w1 ⟨v1, rfl, ho1, hb1⟩
  have hz1 := hb1.size
  have HA := Lib.hid ho1.rws
  obtain ⟨xa, xc, rfl, -, -⟩ := HA.out.form
  replace m0 := (hb1.frozen (p := ⟨w.heap.size, 0, none⟩) (by simp only; omega)).trans m0
  replace q0 := (hb1.cell (p := ⟨w.heap.size, 0, none⟩) (by simp only; omega)).trans q0
  obtain ⟨V1, hV1⟩ : ∃ V1, w1.setCell ⟨w.heap.size, 0, none⟩ (.slice xa a.length xc) = V1 := ⟨_, rfl⟩
  have hk1 : ∀ k, w.heap.size < k → V1.heap[k]? = w1.heap[k]? := fun k h => by rw [← hV1]; exact Below.heap_setCell _ _ _ _ (by simp only; omega)
  have y1 : V1.heap.size = w1.heap.size := by rw [← hV1]; simp
  have hB1 : Below w.heap.size w V1 := by rw [← hV1]; exact (hal.trans (hb1.mono hal.size)).setCell (by simp) _
  have HA1 := Lib.hid (show Rws W.heap.size V1 (.slice xa a.length xc) a from HA.out.keep ⟨by omega, fun k h1 h2 => hk1 k (by omega)⟩)
  have g0 : V1.cell? ⟨w.heap.size, 0, none⟩ = some (.slice xa a.length xc) := by rw [← hV1]; exact World.cell?_setCell_same' _ _ _ (by rw [q0]; rfl)
  have g1 : V1.cell? ⟨w.heap.size + 1, 0, none⟩ = some (.slice va b.length vc) := (World.cell?_of_block (a := ⟨w.heap.size + 1, 0, none⟩) (hk1 _ (by simp only; omega))).trans ((hb1.cell (p := ⟨w.heap.size + 1, 0, none⟩) (by simp only; omega)).trans p0)
  have g2 : V1.cell? ⟨w.heap.size + 1 + 1, 0, none⟩ = some (.slice none 0 0) := (World.cell?_of_block (a := ⟨w.heap.size + 1 + 1, 0, none⟩) (hk1 _ (by simp only; omega))).trans ((hb1.cell (p := ⟨w.heap.size + 1 + 1, 0, none⟩) (by simp only; omega)).trans r0)
  have f1 : V1.frozen? ⟨w.heap.size + 1, 0, none⟩ = false := (World.frozen?_of_block (a := ⟨w.heap.size + 1, 0, none⟩) (hk1 _ (by simp only; omega))).trans ((hb1.frozen (p := ⟨w.heap.size + 1, 0, none⟩) (by simp only; omega)).trans o0)
  have f2 : V1.frozen? ⟨w.heap.size + 1 + 1, 0, none⟩ = false := (World.frozen?_of_block (a := ⟨w.heap.size + 1 + 1, 0, none⟩) (hk1 _ (by simp only; omega))).trans ((hb1.frozen (p := ⟨w.heap.size + 1 + 1, 0, none⟩) (by simp only; omega)).trans n0)
  clear HA ho1 p0 r0 n0 o0 hb1
  go_wp2_with fail
  refine (ownBox_any b _ _ (HU.out.below hB1) hNB HEB.out).mono ?_
  rintro e w2 ⟨v2, rfl, ho2, hb2⟩
  have hz2 := hb2.size
  have HB := Lib.hid ho2.rws
  obtain ⟨xb, xd, rfl, -, -⟩ := HB.out.form
  replace f1 := (hb2.frozen (p := ⟨w.heap.size + 1, 0, none⟩) (by simp only; omega)).trans f1
  replace g1 := (hb2.cell (p := ⟨w.heap.size + 1, 0, none⟩) (by simp only; omega)).trans g1
  obtain ⟨V2, hV2⟩ : ∃ V2, w2.setCell ⟨w.heap.size + 1, 0, none⟩ (.slice xb b.length xd) = V2 := ⟨_, rfl⟩
  have hk2 : ∀ k, k ≠ w.heap.size + 1 → V2.heap[k]? = w2.heap[k]? := fun k h => by rw [← hV2]; exact Below.heap_setCell _ _ _ _ (by simpa using h)
  have y2 : V2.heap.size = w2.heap.size := by rw [← hV2]; simp
  have hB2 : Below w.heap.size w V2 := by rw [← hV2]; exact (hB1.trans (hb2.mono hB1.size)).setCell (by simp only; omega) _
  have HA2 := Lib.hid (show Rws W.heap.size V2 (.slice xa a.length xc) a from (HA1.out.below hb2).keep ⟨by omega, fun k h1 h2 => hk2 k (by omega)⟩)
  have HB2 := Lib.hid (show Rws V1.heap.size V2 (.slice xb b.length xd) b from HB.out.keep ⟨by omega, fun k h1 h2 => hk2 k (by omega)⟩)
  have e0 : V2.cell? ⟨w.heap.size, 0, none⟩ = some (.slice xa a.length xc) := (World.cell?_of_block (a := ⟨w.heap.size, 0, none⟩) (hk2 _ (by simp only; omega))).trans ((hb2.cell (p := ⟨w.heap.size, 0, none⟩) (by simp only; omega)).trans g0)
  have e1 : V2.cell? ⟨w.heap.size + 1, 0, none⟩ = some (.slice xb b.length xd) := by rw [← hV2]; exact World.cell?_setCell_same' _ _ _ (by rw [g1]; rfl)
  have e2 : V2.cell? ⟨w.heap.size + 1 + 1, 0, none⟩ = some (.slice none 0 0) := (World.cell?_of_block (a := ⟨w.heap.size + 1 + 1, 0, none⟩) (hk2 _ (by simp only; omega))).trans ((hb2.cell (p := ⟨w.heap.size + 1 + 1, 0, none⟩) (by simp only; omega)).trans g2)
  have d2 : V2.frozen? ⟨w.heap.size + 1 + 1, 0, none⟩ = false := (World.frozen?_of_block (a := ⟨w.heap.size + 1 + 1, 0, none⟩) (hk2 _ (by simp only; omega))).trans ((hb2.frozen (p := ⟨w.heap.size + 1 + 1, 0, none⟩) (by simp only; omega)).trans f2)
  clear HA1 HB ho2 g0 g2 f2 hb2 HS HU HEA HEB
  have hsv : w.heap.size + 1 + 1 < V2.heap.size := by omega
  have HLA := Lib.hid hla
  generalize a.length = la at *
  generalize b.length = lb at *
  go_wp2_with fail
  refine (specBV_b HA2.out hra).mono ?_
  rintro e w3 ⟨rfl, hb3⟩
  have hB3 := hB2.trans (hb3.mono hB2.size)
  have k1 := (hb3.cell (p := ⟨w.heap.size + 1, 0, none⟩) (by simp only; omega)).trans e1
  have k2 := (hb3.cell (p := ⟨w.heap.size + 1 + 1, 0, none⟩) hsv).trans e2
  have t2 := (hb3.frozen (p := ⟨w.heap.size + 1 + 1, 0, none⟩) hsv).trans d2
  have hz3 := hb3.size
  clear hra
  cases ra
  · have HM := Lib.hid (show R = none by rw [← HR.out]; exact meetV_no (.inl HRA.out))
    have hwW : Below w.heap.size w (w3.setCell ⟨w.heap.size + 1 + 1, 0, none⟩ (.slice none 0 0)) := hB3.setCell (by simp only; omega) _
    go_wp2
    refine bodyPost_ret (v := .agg #[.slice none 0 0]) ?_ rfl ⟨_, rfl, ?_, hwW⟩
    · simp [results, Tryd.results90, go_sem, k2]
    · rw [HM.out]; exact (GRw.nil _ hwW.size).rws
  · go_wp2_with fail
    refine (specBV_b (HB2.out.below hb3) hrb).mono ?_
    rintro e w4 ⟨rfl, hb4⟩
    have hB4 := hb3.trans (hb4.mono hz3)
    have hz4 := hB4.size
    have hw4 := hB2.trans (hB4.mono hB2.size)
    have i0 := (hB4.cell (p := ⟨w.heap.size, 0, none⟩) (by simp only; omega)).trans e0
    have i1 := (hB4.cell (p := ⟨w.heap.size + 1, 0, none⟩) (by simp only; omega)).trans e1
    have i2 := (hB4.cell (p := ⟨w.heap.size + 1 + 1, 0, none⟩) hsv).trans e2
    have j2 := (hB4.frozen (p := ⟨w.heap.size + 1 + 1, 0, none⟩) hsv).trans d2
    clear k1 k2 t2 hb3 hb4 hrb
    cases rb
    · have HM := Lib.hid (show R = none by rw [← HR.out]; exact meetV_no (.inr HRB.out))
      have hwW : Below w.heap.size w (w4.setCell ⟨w.heap.size + 1 + 1, 0, none⟩ (.slice none 0 0)) := hw4.setCell (by simp only; omega) _
      clear i0 i1
      go_wp2
      refine bodyPost_ret (v := .agg #[.slice none 0 0]) ?_ rfl ⟨_, rfl, ?_, hwW⟩
      · simp [results, Tryd.results90, go_sem, i2]
      · rw [HM.out]; exact (GRw.nil _ hwW.size).rws
    · go_wp2_with fail
      refine (l10Meet_w rfl (HA2.out.below hB4) (HB2.out.below hB4) HRA.out HRB.out).mono ?_
      rintro e w5 ⟨v5, rfl, ho5, hb5⟩
      have HM5 := Lib.hid ho5
      clear ho5
      obtain ⟨ma, mc, rfl, -, -⟩ := HM5.out.form
      obtain ⟨rm, hrm⟩ : ∃ r, bvalid (bmeet a b) = r := ⟨_, rfl⟩
      have HRM := Lib.hid hrm
      go_wp2_with fail
      refine (specBV_b HM5.out hrm).mono ?_
      rintro e w6 ⟨rfl, hb6⟩
      have hB6 := (hB4.trans (hb5.mono hz4)).trans (hb6.mono (Nat.le_trans hz4 hb5.size))
      have hz6 := hB6.size
      have hw6 := hB2.trans (hB6.mono hB2.size)
      have c0 := (hB6.cell (p := ⟨w.heap.size, 0, none⟩) (by simp only; omega)).trans e0
      have c1 := (hB6.cell (p := ⟨w.heap.size + 1, 0, none⟩) (by simp only; omega)).trans e1
      have c2 := (hB6.cell (p := ⟨w.heap.size + 1 + 1, 0, none⟩) hsv).trans e2
      have l2 := (hB6.frozen (p := ⟨w.heap.size + 1 + 1, 0, none⟩) hsv).trans d2
      clear i0 i1 i2 j2 hb5 hb6 hrm HM5
      cases rm
      · have HM := Lib.hid (show R = none by rw [← HR.out, meetV_yes HRA.out HRB.out]; unfold meetB; rw [HRM.out]; rfl)
        have hwW : Below w.heap.size w (w6.setCell ⟨w.heap.size + 1 + 1, 0, none⟩ (.slice none 0 0)) := hw6.setCell (by simp only; omega) _
        clear c0 c1
        go_wp2
        refine bodyPost_ret (v := .agg #[.slice none 0 0]) ?_ rfl ⟨_, rfl, ?_, hwW⟩
        · simp [results, Tryd.results90, go_sem, c2]
        · rw [HM.out]; exact (GRw.nil _ hwW.size).rws
      · have HM := Lib.hid (show R = some (bmeet a b) by rw [← HR.out, meetV_yes HRA.out HRB.out]; unfold meetB; rw [HRM.out]; rfl)
        go_wp2_with fail
        refine (l10Meet_w rfl (HA2.out.below hB6) (HB2.out.below hB6) HRA.out HRB.out).mono ?_
        rintro e w7 ⟨v7, rfl, ho7, hb7⟩
        have HM7 := Lib.hid ho7
        clear ho7
        obtain ⟨na, nc, rfl, -, -⟩ := HM7.out.form
        have c3 := (hb7.cell (p := ⟨w.heap.size + 1 + 1, 0, none⟩) (by simp only; omega)).trans c2
        have l3 := (hb7.frozen (p := ⟨w.heap.size + 1 + 1, 0, none⟩) (by simp only; omega)).trans l2
        have hw7 := hw6.trans (hb7.mono hw6.size)
        have hz7 := hb7.size
        have hwW : Below w.heap.size w (w7.setCell ⟨w.heap.size + 1 + 1, 0, none⟩ (.slice na (bmeet a b).length nc)) := hw7.setCell (by simp only; omega) _
        clear c0 c1 c2 l2
        go_wp2
        refine bodyPost_ret (v := .agg #[.slice na (bmeet a b).length nc]) ?_ rfl ⟨_, rfl, ?_, hwW⟩
        · simp [results, Tryd.results90, go_sem, c3]
        · rw [HM.out]
          exact ((HM7.out.keep ⟨by simp, fun k h1 h2 => Below.heap_setCell _ _ _ _ (by simp only; omega)⟩).mono (by omega))
end Go.Proofs.YtajcogpfmpehkaaDoor
