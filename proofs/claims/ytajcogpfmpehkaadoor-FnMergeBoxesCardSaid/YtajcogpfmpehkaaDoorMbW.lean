/- Merging boxes: both functions. -/
import Derived.Test.YtajcogpfmpehkaaDoorMbI
import Derived.Test.YtajcogpfmpehkaaDoorRsC
import Derived.Test.YtajcogpfmpehkaaDoorDrT
import Derived.Test.YtajcogpfmpehkaaDoorRgX
import Derived.Test.YtajcogpfmpehkaaDoorFnX
namespace Go.Proofs.YtajcogpfmpehkaaDoor
open Go.RowKit
def mergeV (a b : Bx) : Option Bx := if bvalid a && bvalid b then mergeB a b else none
theorem mergeV_yes {a b : Bx} (ha : bvalid a = true) (hb : bvalid b = true) : mergeV a b = mergeB a b := by unfold mergeV; rw [ha, hb]; rfl
theorem mergeV_no {a b : Bx} (h : bvalid a = false ∨ bvalid b = false) : mergeV a b = none := by
  unfold mergeV
  rcases h with h | h
  · rw [h]; rfl
  · rw [h, Bool.and_false]; rfl
theorem mergeV_valid {a b c : Bx} (h : mergeV a b = some c) : bvalid c = true := by
  unfold mergeV at h
  split at h
  · rename_i hv
    rw [Bool.and_eq_true] at hv
    exact mergeB_valid hv.1 hv.2 h
  · cases h
theorem GRw.nil (w : World) {lo hi : Nat} (h : lo ≤ hi) : GRw w lo hi (.slice none 0 0) [] := ⟨[], World.ownsRow_nil _ _ _ _, (fun z hz => by cases hz), h, h⟩
/-- The merged sets in the making: a value of four sets; those of R, if it is there. -/
def MG (R : Option Bx) (w : World) (z : Value) : Prop := ∃ a0 n0 p0 a1 n1 p1 a2 n2 p2 a3 n3 p3, z = .agg #[.slice a0 n0 p0, .slice a1 n1 p1, .slice a2 n2 p2, .slice a3 n3 p3] ∧ ∀ c, R = some c → All2 (Sps 0 w) [.slice a0 n0 p0, .slice a1 n1 p1, .slice a2 n2 p2, .slice a3 n3 p3] c
theorem MG.below {R : Option Bx} {w w' : World} {z : Value} (h : MG R w z) (hb : Below w.heap.size w w') : MG R w' z :=
  let ⟨a0, n0, p0, a1, n1, p1, a2, n2, p2, a3, n3, p3, h1, h2⟩ := h
  ⟨a0, n0, p0, a1, n1, p1, a2, n2, p2, a3, n3, p3, h1, fun c hc => (h2 c hc).mono (fun _ _ g => g.below hb)⟩
/-- A new block of four sets. -/
def MP (W w : World) (v : Value) : Prop := ∃ q, v = .pointer (some ⟨q, 0, none⟩) ∧ W.heap.size ≤ q ∧ q < w.heap.size ∧ (∀ j, w.frozen? ⟨q, j, none⟩ = false) ∧ w.cell? ⟨q, 0, none⟩ = some (.slice none 0 0) ∧ w.cell? ⟨q, 1, none⟩ = some (.slice none 0 0) ∧ w.cell? ⟨q, 2, none⟩ = some (.slice none 0 0) ∧ w.cell? ⟨q, 3, none⟩ = some (.slice none 0 0)
theorem mst_mp (W : World) : BStb (MP W) := fun _ _ _ hb ⟨q, h0, h1, h2, h3, g0, g1, g2, g3⟩ =>
  ⟨q, h0, h1, Nat.lt_of_lt_of_le h2 hb.size, fun j => (hb.frozen (p := ⟨q, j, none⟩) h2).trans (h3 j), (hb.cell (p := ⟨q, 0, none⟩) h2).trans g0, (hb.cell (p := ⟨q, 1, none⟩) h2).trans g1, (hb.cell (p := ⟨q, 2, none⟩) h2).trans g2, (hb.cell (p := ⟨q, 3, none⟩) h2).trans g3⟩
theorem MP.new {W : World} (w : World) (h : W.heap.size ≤ w.heap.size) : MP W (w.alloc (.cells #[.slice none 0 0, .slice none 0 0, .slice none 0 0, .slice none 0 0] 89)) (.pointer (some ⟨w.heap.size, 0, none⟩)) :=
  ⟨_, rfl, h, by simp, fun j => frz_new w _ _ j, by simp, by simp, by simp, by simp⟩
/-- The block behind the store. -/
def MQ (R : Option Bx) (W w : World) (v : Value) : Prop := ∃ q a0 n0 p0 a1 n1 p1 a2 n2 p2 a3 n3 p3, v = .pointer (some ⟨q, 0, none⟩) ∧ W.heap.size ≤ q ∧ q < w.heap.size ∧ w.cell? ⟨q, 0, none⟩ = some (.slice a0 n0 p0) ∧ w.cell? ⟨q, 1, none⟩ = some (.slice a1 n1 p1) ∧ w.cell? ⟨q, 2, none⟩ = some (.slice a2 n2 p2) ∧ w.cell? ⟨q, 3, none⟩ = some (.slice a3 n3 p3) ∧ (∀ c, R = some c → All2 (Sps 0 w) [.slice a0 n0 p0, .slice a1 n1 p1, .slice a2 n2 p2, .slice a3 n3 p3] c) ∧ Below W.heap.size W w
theorem MQ.mk8 {R : Option Bx} {W w : World} {qq : Nat} {a0 a1 a2 a3 : Option Addr} {n0 p0 n1 p1 n2 p2 n3 p3 : Nat} (hC : Below W.heap.size W w) (h1 : W.heap.size ≤ qq) (h2 : qq < w.heap.size)
    (g0 : w.cell? ⟨qq, 0, none⟩ = some (.slice none 0 0)) (g1 : w.cell? ⟨qq, 1, none⟩ = some (.slice none 0 0)) (g2 : w.cell? ⟨qq, 2, none⟩ = some (.slice none 0 0)) (g3 : w.cell? ⟨qq, 3, none⟩ = some (.slice none 0 0))
    (hz : ∀ c, R = some c → All2 (Sps 0 w) [.slice a0 n0 p0, .slice a1 n1 p1, .slice a2 n2 p2, .slice a3 n3 p3] c) :
    MQ R W ((((w.setCell ⟨qq, 0, none⟩ (.slice a0 n0 p0)).setCell ⟨qq, 1, none⟩ (.slice a1 n1 p1)).setCell ⟨qq, 2, none⟩ (.slice a2 n2 p2)).setCell ⟨qq, 3, none⟩ (.slice a3 n3 p3)) (.pointer (some ⟨qq, 0, none⟩)) := by
  have hbel : Below W.heap.size W ((((w.setCell ⟨qq, 0, none⟩ (.slice a0 n0 p0)).setCell ⟨qq, 1, none⟩ (.slice a1 n1 p1)).setCell ⟨qq, 2, none⟩ (.slice a2 n2 p2)).setCell ⟨qq, 3, none⟩ (.slice a3 n3 p3)) := (((hC.setCell h1 _).setCell h1 _).setCell h1 _).setCell h1 _
  have hint : ∀ (p : Addr) (n : Int), w.cell? p = some (.int .i64 n) → ((((w.setCell ⟨qq, 0, none⟩ (.slice a0 n0 p0)).setCell ⟨qq, 1, none⟩ (.slice a1 n1 p1)).setCell ⟨qq, 2, none⟩ (.slice a2 n2 p2)).setCell ⟨qq, 3, none⟩ (.slice a3 n3 p3)).cell? p = some (.int .i64 n) := fun p n hp => by
    have e0 : p ≠ ⟨qq, 0, none⟩ := fun e => by rw [e, g0] at hp; cases hp
    have e1 : p ≠ ⟨qq, 1, none⟩ := fun e => by rw [e, g1] at hp; cases hp
    have e2 : p ≠ ⟨qq, 2, none⟩ := fun e => by rw [e, g2] at hp; cases hp
    have e3 : p ≠ ⟨qq, 3, none⟩ := fun e => by rw [e, g3] at hp; cases hp
    rw [World.cell?_setCell_other _ _ _ _ (Ne.symm e3), World.cell?_setCell_other _ _ _ _ (Ne.symm e2), World.cell?_setCell_other _ _ _ _ (Ne.symm e1), World.cell?_setCell_other _ _ _ _ (Ne.symm e0)]
    exact hp
  refine ⟨qq, a0, n0, p0, a1, n1, p1, a2, n2, p2, a3, n3, p3, rfl, h1, by simpa using h2, ?_, ?_, ?_, ?_, fun c hc => (hz c hc).mono (fun _ _ g => Sps.ints g (by simp) hint), hbel⟩
  · rw [World.cell?_setCell_other _ _ _ _ (by simp), World.cell?_setCell_other _ _ _ _ (by simp), World.cell?_setCell_other _ _ _ _ (by simp)]
    exact World.cell?_setCell_same' _ _ _ (by rw [g0]; rfl)
  · rw [World.cell?_setCell_other _ _ _ _ (by simp), World.cell?_setCell_other _ _ _ _ (by simp)]
    exact World.cell?_setCell_same' _ _ _ (by rw [World.cell?_setCell_other _ _ _ _ (by simp), g1]; rfl)
  · rw [World.cell?_setCell_other _ _ _ _ (by simp)]
    exact World.cell?_setCell_same' _ _ _ (by rw [World.cell?_setCell_other _ _ _ _ (by simp), World.cell?_setCell_other _ _ _ _ (by simp), g2]; rfl)
  · exact World.cell?_setCell_same' _ _ _ (by rw [World.cell?_setCell_other _ _ _ _ (by simp), World.cell?_setCell_other _ _ _ _ (by simp), World.cell?_setCell_other _ _ _ _ (by simp), g3]; rfl)
theorem mergeSides_r {lo lo' : Nat} {a b : Bx} {v0 v1 v2 v3 u0 u1 u2 u3 : Value} {w : World} {R : Option Bx} (h : mergeB a b = R) (ht : Tab w) (hs : All2 (Sps lo w) [v0, v1, v2, v3] a) (hu : All2 (Sps lo' w) [u0, u1, u2, u3] b) (ha : bvalid a = true) (hb : bvalid b = true) :
    Calls Tryd.prog 56 #[.agg #[v0, v1, v2, v3], .agg #[u0, u1, u2, u3]] w fun e w' => ∃ a0 n0 p0 a1 n1 p1 a2 n2 p2 a3 n3 p3, e = .returned (.tuple #[.agg #[.slice a0 n0 p0, .slice a1 n1 p1, .slice a2 n2 p2, .slice a3 n3 p3], .bool R.isSome]) ∧ (∀ c, R = some c → All2 (Sps 0 w') [.slice a0 n0 p0, .slice a1 n1 p1, .slice a2 n2 p2, .slice a3 n3 p3] c) ∧ Below w.heap.size w w' := by
  subst h
  exact mergeSides_any a b v0 v1 v2 v3 u0 u1 u2 u3 w ht hs hu ha hb
set_option maxHeartbeats 2000000 in
set_option maxRecDepth 100000 in
theorem implMB_e {lo lo' : Nat} {a b : Bx} {R : Option Bx} {u v : Value} {w : World} (hs : Rws lo w u a) (hu : Rws lo' w v b) (ht : Tab w) (h : mergeV a b = R) :
    Calls Tryd.prog 23 #[.agg #[u], .agg #[v]] w fun e w' => ∃ z, e = .returned (.tuple #[.agg #[z], .bool R.isSome]) ∧ GRw w' w.heap.size w'.heap.size z (R.getD []) ∧ Below w.heap.size w w' := by
  obtain ⟨ua, uc, rfl, -, -⟩ := hs.form
  obtain ⟨va, vc, rfl, -, -⟩ := hu.form
  obtain ⟨ra, hra⟩ : ∃ r, bvalid a = r := ⟨_, rfl⟩
  obtain ⟨rb, hrb⟩ : ∃ r, bvalid b = r := ⟨_, rfl⟩
  have HRA := Lib.hid hra
  have HRB := Lib.hid hrb
  have HS := Lib.hid hs
  have HU := Lib.hid hu
  have HR := Lib.hid h
  clear hs hu h
  have hal : Below w.heap.size w (((w.alloc (.cells #[.slice ua a.length uc] 32)).alloc (.cells #[.slice va b.length vc] 32)).alloc (.cells #[.slice none 0 0] 32)) := by (repeat' (first | with_reducible exact Below.refl _ _ | with_reducible assumption | with_reducible refine Below.setCell ?_ ?_ _ | with_reducible refine Below.alloc ?_ ?_ _ | with_reducible refine Below.drew ?_ | with_reducible refine belDrewN ?_ _ | with_reducible refine Below.trans ?_ (Below.mono (by assumption) ?_) | omega | (simp; omega) | (simp; done)))
  have HA3 := alloc3_cells w #[.slice ua a.length uc] #[.slice va b.length vc] #[.slice none 0 0] 32 32 32
  obtain ⟨W, hW⟩ : ∃ W, ((w.alloc (.cells #[.slice ua a.length uc] 32)).alloc (.cells #[.slice va b.length vc] 32)).alloc (.cells #[.slice none 0 0] 32) = W := ⟨_, rfl⟩
  have qs : W.heap.size = w.heap.size + 1 + 1 + 1 := by rw [← hW]; simp
  rw [hW] at HA3 hal
  have q0 : W.cell? ⟨w.heap.size, 0, none⟩ = some (.slice ua a.length uc) := by rw [HA3.1 0]; rfl
  have p0 : W.cell? ⟨w.heap.size + 1, 0, none⟩ = some (.slice va b.length vc) := by rw [(HA3.2.1 0).1]; rfl
  have r0 : W.cell? ⟨w.heap.size + 1 + 1, 0, none⟩ = some (.slice none 0 0) := by rw [(HA3.2.2 0).1]; rfl
  have n0 : W.frozen? ⟨w.heap.size + 1 + 1, 0, none⟩ = false := (HA3.2.2 0).2
  have HC := Lib.hid (And.intro q0 (And.intro p0 (And.intro r0 n0)))
  generalize a.length = la at *
  generalize b.length = lb at *
  clear HA3
  go_enter Tryd.func23, Tryd.ntmps23
  go_wp2_with fail
  refine (implBV_b (HS.out.below hal) (ht.below hal) hra).mono ?_
  rintro e w1 ⟨rfl, hb1⟩
  have hz1 := hb1.size
  have hw1 := hal.trans (hb1.mono hal.size)
  have p1 := (hb1.cell (p := ⟨w.heap.size + 1, 0, none⟩) (by simp only; omega)).trans HC.out.2.1
  have r1 := (hb1.cell (p := ⟨w.heap.size + 1 + 1, 0, none⟩) (by simp only; omega)).trans HC.out.2.2.1
  have n1 := (hb1.frozen (p := ⟨w.heap.size + 1 + 1, 0, none⟩) (by simp only; omega)).trans HC.out.2.2.2
  clear q0 p0 r0 n0 hW hra
  cases ra
  · have HM := Lib.hid (show R = none by rw [← HR.out]; exact mergeV_no (.inl HRA.out))
    have hwW : Below w.heap.size w (w1.setCell ⟨w.heap.size + 1 + 1, 0, none⟩ (.slice none 0 0)) := hw1.setCell (by simp only; omega) _
    go_wp2
    refine bodyPost_ret (v := .tuple #[.agg #[.slice none 0 0], .bool false]) ?_ rfl ⟨_, by rw [HM.out]; rfl, ?_, hwW⟩
    · simp [results, Tryd.results23, go_sem, r1]
    · rw [HM.out]; exact GRw.nil _ hwW.size
  · go_wp2_with fail
    refine (implBV_b (HU.out.below hw1) (ht.below hw1) hrb).mono ?_
    rintro e w2 ⟨rfl, hb2⟩
    have hbW2 := hb1.trans (hb2.mono hz1)
    have hz2 := hbW2.size
    have hw2 := hal.trans (hbW2.mono hal.size)
    have cq2 := (hbW2.cell (p := ⟨w.heap.size, 0, none⟩) (by simp only; omega)).trans HC.out.1
    have cp2 := (hbW2.cell (p := ⟨w.heap.size + 1, 0, none⟩) (by simp only; omega)).trans HC.out.2.1
    have cr2 := (hbW2.cell (p := ⟨w.heap.size + 1 + 1, 0, none⟩) (by simp only; omega)).trans HC.out.2.2.1
    have cn2 := (hbW2.frozen (p := ⟨w.heap.size + 1 + 1, 0, none⟩) (by simp only; omega)).trans HC.out.2.2.2
    clear p1 r1 n1 hb1 hb2 hrb
    cases rb
    · have HM := Lib.hid (show R = none by rw [← HR.out]; exact mergeV_no (.inr HRB.out))
      have hwW : Below w.heap.size w (w2.setCell ⟨w.heap.size + 1 + 1, 0, none⟩ (.slice none 0 0)) := hw2.setCell (by simp only; omega) _
      clear cq2 cp2
      go_wp2
      refine bodyPost_ret (v := .tuple #[.agg #[.slice none 0 0], .bool false]) ?_ rfl ⟨_, by rw [HM.out]; rfl, ?_, hwW⟩
      · simp [results, Tryd.results23, go_sem, cr2]
      · rw [HM.out]; exact GRw.nil _ hwW.size
    · have HMB := Lib.hid (show mergeB a b = R by rw [← HR.out]; exact (mergeV_yes HRA.out HRB.out).symm)
      have h4a := (bvalid_four HRA.out).1
      have h4b := (bvalid_four HRB.out).1
      have hl2 : w.heap.size < w2.heap.size := by omega
      have hl2' : w.heap.size + 1 < w2.heap.size := by omega
      go_wp2_with fail
      refine wp_region_turn2 (W := w2) 9 [BIs (.agg #[.slice ua la uc]), (fun w v => ∃ z0 z1 z2 z3, v = .agg #[z0, z1, z2, z3] ∧ All2 (Sps 0 w) [z0, z1, z2, z3] a), BIs (.agg #[.slice va lb vc]), (fun w v => ∃ z0 z1 z2 z3, v = .agg #[z0, z1, z2, z3] ∧ All2 (Sps 0 w) [z0, z1, z2, z3] b), (fun w v => ∃ z, v = .tuple #[z, .bool R.isSome] ∧ MG R w z), (fun w v => ∃ z, v = .tuple #[z, .bool R.isSome] ∧ MG R w z), (fun w z => MG R w z), BIs (.bool R.isSome), (MP w2)] (bof [BIs (.agg #[.slice ua la uc]), (fun _ _ => True), BIs (.agg #[.slice va lb vc]), (fun _ _ => True), (fun _ v => ∃ z, v = .tuple #[z, .bool R.isSome] ∧ True), (fun _ v => ∃ z, v = .tuple #[z, .bool R.isSome] ∧ True), (fun _ _ => True), BIs (.bool R.isSome), (MQ R w2), (fun _ _ => True), BIs (.bool R.isSome)]) (by kernel_rfl) (by decide) (fun u => by simp only [frU, Act.put, List.setIfInBounds_toArray, List.set_cons_succ, List.set_cons_zero, Nat.zero_add, Nat.reduceAdd]; exact rfl) (by kernel_rfl) ⟨bst_is _, (fun _ _ _ hb ⟨z0, z1, z2, z3, h1, h2⟩ => ⟨z0, z1, z2, z3, h1, h2.mono (fun _ _ g => g.below hb)⟩), bst_is _, (fun _ _ _ hb ⟨z0, z1, z2, z3, h1, h2⟩ => ⟨z0, z1, z2, z3, h1, h2.mono (fun _ _ g => g.below hb)⟩), (fun _ _ _ hb ⟨z, h1, h2⟩ => ⟨z, h1, h2.below hb⟩), (fun _ _ _ hb ⟨z, h1, h2⟩ => ⟨z, h1, h2.below hb⟩), (fun _ _ _ hb h => h.below hb), bst_is _, (mst_mp _), trivial⟩ ?_ ?_; (exact ⟨stT rfl (by decide) (by kernel_rfl) (fun u w3 hC hd hI Q K hK => by (have z0 := (hC.cell (p := ⟨w.heap.size, 0, none⟩) hl2).trans cq2; go_step; exact hK _ _ rfl (Below.refl _ _) rfl)), stT rfl (by decide) (by kernel_rfl) (fun u w3 hC hd hI Q K hK => by (have hu := bis (w := w3) (hd 0 rfl); rw [hu] at hK ⊢; clear hu; go_step; refine (sidesOf_any a _ w _ HS.out (hw2.trans (hC.mono hw2.size)) h4a).mono ?_; rintro e w4 ⟨a0, n0, p0, a1, n1, p1, a2, n2, p2, a3, n3, p3, rfl, ha4, hb4⟩; exact hK _ _ rfl hb4 ⟨_, _, _, _, rfl, ha4.mono (fun _ _ g => (g.below ((hw2.trans (hC.mono hw2.size)).trans (hb4.mono (hw2.trans (hC.mono hw2.size)).size))).mono (Nat.zero_le _))⟩)), stT rfl (by decide) (by kernel_rfl) (fun u w3 hC hd hI Q K hK => by (have z0 := (hC.cell (p := ⟨w.heap.size + 1, 0, none⟩) hl2').trans cp2; go_step; exact hK _ _ rfl (Below.refl _ _) rfl)), stT rfl (by decide) (by kernel_rfl) (fun u w3 hC hd hI Q K hK => by (have hu := bis (w := w3) (hd 2 rfl); rw [hu] at hK ⊢; clear hu; go_step; refine (sidesOf_any b _ w _ HU.out (hw2.trans (hC.mono hw2.size)) h4b).mono ?_; rintro e w4 ⟨a0, n0, p0, a1, n1, p1, a2, n2, p2, a3, n3, p3, rfl, ha4, hb4⟩; exact hK _ _ rfl hb4 ⟨_, _, _, _, rfl, ha4.mono (fun _ _ g => (g.below ((hw2.trans (hC.mono hw2.size)).trans (hb4.mono (hw2.trans (hC.mono hw2.size)).size))).mono (Nat.zero_le _))⟩)), stT rfl (by decide) (by kernel_rfl) (fun u w3 hC hd hI Q K hK => by (obtain ⟨x0, x1, x2, x3, hu, hx⟩ := hd 1 rfl; rw [hu] at hK ⊢; clear hu; obtain ⟨y0, y1, y2, y3, hu, hy⟩ := hd 3 rfl; rw [hu] at hK ⊢; clear hu; go_step; refine (mergeSides_r HMB.out (ht.below (hw2.trans (hC.mono hw2.size))) hx hy HRA.out HRB.out).mono ?_; rintro e w4 ⟨a0, n0, p0, a1, n1, p1, a2, n2, p2, a3, n3, p3, rfl, ho4, hb4⟩; exact hK _ _ rfl hb4 ⟨_, rfl, a0, n0, p0, a1, n1, p1, a2, n2, p2, a3, n3, p3, rfl, ho4⟩)), stT rfl (by decide) (by kernel_rfl) (fun u w3 hC hd hI Q K hK => by (obtain ⟨z, hu, hz⟩ := hd 4 rfl; rw [hu] at hK ⊢; clear hu; go_step; exact hK _ _ rfl (Below.refl _ _) ⟨z, rfl, hz⟩)), stT rfl (by decide) (by kernel_rfl) (fun u w3 hC hd hI Q K hK => by (obtain ⟨z, hu, hz⟩ := hd 5 rfl; rw [hu] at hK ⊢; clear hu; go_step; exact hK _ _ rfl (Below.refl _ _) hz)), stTf rfl (by decide) (fun u w3 hC hd Q K hK => by (obtain ⟨z, hu, hz⟩ := hd 5 rfl; rw [hu] at hK ⊢; clear hu; go_step; exact hK _ _ rfl (Below.refl _ _) rfl)) (fun u w3 hd Q K hK => by (dsimp only at hK ⊢; obtain ⟨z, hu, hz⟩ := hd 5 rfl; rw [hu] at hK ⊢; clear hu; go_step; exact hK _ rfl rfl)), stT rfl (by decide) (by kernel_rfl) (fun u w3 hC hd hI Q K hK => by (go_step; exact hK _ _ rfl ((Below.refl _ _).alloc (Nat.le_refl _) _) (MP.new _ hC.size))), stTt rfl (by decide) (fun u w3 hC hd Q K hK => by (dsimp only at hK ⊢; obtain ⟨qq, hu, hq1, hq2, hqf, g0, g1, g2, g3⟩ := hd 8 rfl; rw [hu] at hK ⊢; have hkeep := hu; clear hu; obtain ⟨a0, n0, p0, a1, n1, p1, a2, n2, p2, a3, n3, p3, hu, hz⟩ := hd 6 rfl; rw [hu] at hK ⊢; clear hu; have e0 := hqf 0; have e1 := hqf 1; have e2 := hqf 2; have e3 := hqf 3; go_step; have hQ := MQ.mk8 hC hq1 hq2 g0 g1 g2 g3 hz; refine hK _ _ rfl (fun j hj h => ?_) ?_; (match j, hj, h with | 0, _, h => exact h | 1, _, _ => exact trivial | 2, _, h => exact h | 3, _, _ => exact trivial | 4, _, h => exact (let ⟨z, g1, _⟩ := h; ⟨z, g1, trivial⟩) | 5, _, h => exact (let ⟨z, g1, _⟩ := h; ⟨z, g1, trivial⟩) | 6, _, _ => exact trivial | 7, _, h => exact h | 8, _, h => exact (show MQ R w2 _ _ by rw [hkeep]; exact hQ) | j + 9, hj, _ => exact absurd hj (by omega)); exact trivial)), stTb rfl (by decide) (by kernel_rfl) (fun u w3 hd Q K hK => by (dsimp only at hK ⊢; have hu := bis (w := w3) (hd 7 rfl); rw [hu] at hK ⊢; clear hu; go_step; exact hK _ rfl rfl)), trivial⟩); intro u w9 hF; rw [bis (w := w9) (hF 0 (by decide))]; rw [bis (w := w9) (hF 2 (by decide))]; rw [bis (w := w9) (hF 7 (by decide))]; have h8 := hF 8 (by decide); generalize u 8 = v8 at *; rw [bis (w := w9) (hF 10 (by decide))]; generalize u 1 = vx1 at *; generalize u 3 = vx3 at *; generalize u 4 = vx4 at *; generalize u 5 = vx5 at *; generalize u 6 = vx6 at *; generalize u 9 = vx9 at *; clear hF
      obtain ⟨qq, a0, n0, p0, a1, n1, p1, a2, n2, p2, a3, n3, p3, hv8, hq1, hq2, g0, g1, g2, g3, hz, hb9⟩ := h8
      subst hv8
      have hz9 := hb9.size
      have hw9 := hw2.trans (hb9.mono hw2.size)
      have r9 := (hb9.cell (p := ⟨w.heap.size + 1 + 1, 0, none⟩) (by simp only; omega)).trans cr2
      have n9 := (hb9.frozen (p := ⟨w.heap.size + 1 + 1, 0, none⟩) (by simp only; omega)).trans cn2
      have HZ := Lib.hid hz
      have HRV := Lib.hid (show ∀ c, R = some c → bvalid c = true from fun c hc => mergeV_valid (by rw [HR.out]; exact hc))
      clear hz cr2 cn2 cp2 cq2 hb9 h4a h4b
      cases R with
      | none =>
        have hwW : Below w.heap.size w (w9.setCell ⟨w.heap.size + 1 + 1, 0, none⟩ (.slice none 0 0)) := hw9.setCell (by simp only; omega) _
        go_wp2
        refine bodyPost_ret (v := .tuple #[.agg #[.slice none 0 0], .bool false]) ?_ rfl ⟨_, rfl, GRw.nil _ hwW.size, hwW⟩
        simp [results, Tryd.results23, go_sem, r9]
      | some c =>
        have hall := HZ.out c rfl
        have hcv := HRV.out c rfl
        have HLE := Lib.hid (fun (k : Nat) (xs : List Sp) (hx : c[k]? = some xs) => (show xs.length ≤ 1000000 by have := bvalid_lens hcv k xs hx; omega))
        have HCC := Lib.hid hall
        clear hall
        go_wp2_with fail
        refine (box_any c _ _ _ _ w9 w9 HCC.out (Below.refl _ _) HLE.out).mono ?_
        rintro e w10 ⟨v10, rfl, ho10, hb10⟩
        obtain ⟨va10, vc10, rfl, -, -⟩ := ho10.rws.form
        have hw10 := hw9.trans (hb10.mono hw9.size)
        have hz10 := hb10.size
        have r10 := (hb10.cell (p := ⟨w.heap.size + 1 + 1, 0, none⟩) (by simp only; omega)).trans r9
        have n10 := (hb10.frozen (p := ⟨w.heap.size + 1 + 1, 0, none⟩) (by simp only; omega)).trans n9
        have HG := Lib.hid ho10.g
        have hwW : Below w.heap.size w (w10.setCell ⟨w.heap.size + 1 + 1, 0, none⟩ (.slice va10 c.length vc10)) := hw10.setCell (by simp only; omega) _
        clear ho10 hb10 r9 n9
        go_wp2
        refine bodyPost_ret (v := .tuple #[.agg #[.slice va10 c.length vc10], .bool true]) ?_ rfl ⟨_, rfl, ?_, hwW⟩
        · simp [results, Tryd.results23, go_sem, r10]
        · have h1 := OwnG.keepSet (u := .slice va10 c.length vc10) (p := ⟨w.heap.size + 1 + 1, 0, none⟩) PSp.kind HG.out (by simp only; omega)
          rw [show (w10.setCell ⟨w.heap.size + 1 + 1, 0, none⟩ (.slice va10 c.length vc10)).heap.size = w10.heap.size from by simp]
          exact OwnG.low h1 (by omega)
set_option maxHeartbeats 2000000 in
set_option maxRecDepth 100000 in
theorem specBW_any {lo lo' : Nat} (a b : Bx) (u v : Value) (w : World) (hs : Rws lo w u a) (ht : Rws lo' w v b) (ha : bvalid a = true) (hb : bvalid b = true) :
    Calls Tryd.prog 59 #[.agg #[u], .agg #[v]] w fun e w' => e = .returned (.bool (bwithin a b)) ∧ Below w.heap.size w w' := by
  obtain ⟨ua, uc, rfl, -, -⟩ := hs.form
  obtain ⟨va, vc, rfl, -, -⟩ := ht.form
  have HS := Lib.hid hs
  have HT := Lib.hid ht
  have HA := Lib.hid ha
  have HB := Lib.hid hb
  have HE := Lib.hid (bcut_empty ha hb)
  generalize a.length = la at *
  generalize b.length = lb at *
  obtain ⟨W, hW⟩ : ∃ W, (w.alloc (.cells #[.slice ua la uc] 32)).alloc (.cells #[.slice va lb vc] 32) = W := ⟨_, rfl⟩
  have hal : Below w.heap.size w W := by rw [← hW]; (repeat' (first | with_reducible exact Below.refl _ _ | with_reducible assumption | with_reducible refine Below.setCell ?_ ?_ _ | with_reducible refine Below.alloc ?_ ?_ _ | with_reducible refine Below.drew ?_ | with_reducible refine belDrewN ?_ _ | with_reducible refine Below.trans ?_ (Below.mono (by assumption) ?_) | omega | (simp; omega) | (simp; done)))
  have HA3 := alloc2_cells w #[.slice ua la uc] #[.slice va lb vc] 32 32
  rw [hW] at HA3
  have qs : W.heap.size = w.heap.size + 1 + 1 := by rw [← hW]; simp
  have q0 : W.cell? ⟨w.heap.size, 0, none⟩ = some (.slice ua la uc) := by rw [(HA3.1 0).1]; rfl
  have p0 : W.cell? ⟨w.heap.size + 1, 0, none⟩ = some (.slice va lb vc) := by rw [(HA3.2 0).1]; rfl
  clear hs ht HA3
  go_enter Tryd.func59, Tryd.ntmps59
  go_wp2_with fail
  refine (specBV_b (HS.out.below hal) ha).mono ?_
  rintro e w1 ⟨rfl, hb1⟩
  have hz1 := hb1.size
  have p1 := (hb1.cell (p := ⟨w.heap.size + 1, 0, none⟩) (by simp only; omega)).trans p0
  have hw1 := hal.trans (hb1.mono hal.size)
  go_wp2_with fail
  refine (specBV_b (HT.out.below hw1) hb).mono ?_
  rintro e w2 ⟨rfl, hb2⟩
  have hw2 := hw1.trans (hb2.mono hw1.size)
  have hz2 := hw2.size
  have hz12 := hb2.size
  have q2 := ((hb1.trans (hb2.mono hz1)).cell (p := ⟨w.heap.size, 0, none⟩) (by simp only; omega)).trans q0
  have p2 := (hb2.cell (p := ⟨w.heap.size + 1, 0, none⟩) (by simp only; omega)).trans p1
  clear hb1 hb2 hz1 ha hb q0 p0 p1 hW hw1
  go_wp2_with fail
  refine (l11Cut_any (fun _ => False) a b _ _ _ (fun _ h => h.elim) (RwV.old HS.out hw2 (fun _ h => h.elim)) (HT.out.below hw2) HA.out HB.out).mono ?_
  rintro e w3 ⟨z3, rfl, ho3, hb3⟩
  have hw3 := hw2.trans (hb3.mono hz2)
  obtain ⟨za, zc, hzf⟩ := ho3.form
  subst hzf
  have HE2 := Lib.hid (show bwithin a b = decide ((bcut a b).length = 0) by
    rw [← HE.out]
    cases bcut a b <;> simp)
  generalize (bcut a b).length = zn at *
  clear ho3 hb3
  by_cases hzn : zn = 0
  · subst hzn
    go_wp2
    go_ret
    exact ⟨ret_bool (by rw [HE2.out]; rfl), hw3⟩
  · have hne : ((zn : Int) == 0) = false := by simpa using hzn
    have HZN := Lib.hid (decide_eq_false hzn)
    clear hzn
    go_wp2
    go_ret
    exact ⟨ret_bool (by rw [HE2.out, HZN.out]), hw3⟩
theorem specBW_b {lo lo' : Nat} {a b : Bx} {u v : Value} {w : World} {r : Bool} (hs : Rws lo w u a) (ht : Rws lo' w v b) (ha : bvalid a = true) (hb : bvalid b = true) (h : bwithin a b = r) :
    Calls Tryd.prog 59 #[.agg #[u], .agg #[v]] w fun e w' => e = .returned (.bool r) ∧ Below w.heap.size w w' := by
  subst h
  exact specBW_any a b u v w hs ht ha hb
theorem suni_snoc (a : List Sp) : ∀ (xs : List Sp) (y : Sp), suni a (xs ++ [y]) = sadd (suni a xs) false y
  | [], y => rfl
  | x :: xs, y => by rw [List.cons_append]; unfold suni; exact suni_snoc (sadd a false x) xs y
theorem svalid_inT {xs : List Sp} {t : Int} (h : svalid xs t = true) : InT t xs := fun _ _ hx => sgood_get (svalid_good h) hx
set_option maxHeartbeats 2000000 in
set_option maxRecDepth 100000 in
theorem specUni_e {lo lo' : Nat} {xs ys L : List Sp} {u v : Value} {t : Int} {w : World} (hL : suni xs ys = L) (hs : Sps lo w u xs) (ht : Sps lo' w v ys) (vx : svalid xs t = true) (vy : svalid ys t = true) (t0 : 0 ≤ t) (t1 : t ≤ 65535) :
    Calls Tryd.prog 63 #[u, v, .int .i64 t] w fun e w' => ∃ z, e = .returned z ∧ OwnSp w.heap.size w' z (slim L) ∧ Below w.heap.size w w' := by
  obtain ⟨ua, uc, rfl, hu1, hu2⟩ := hs.form
  obtain ⟨va, vc, rfl, hv1, hv2⟩ := ht.form
  unfold maxLen at hu2 hv2
  have lx := svalid_len vx
  have ly := svalid_len vy
  have HX := Lib.hid vx
  have HY := Lib.hid vy
  have HT := Lib.hid (svalid_inT vy)
  have HTX := Lib.hid (svalid_inT vx)
  have HL := Lib.hid hL
  obtain ⟨i0, hi, hy0, hy1, hy2⟩ := info_parts infoSp
  generalize hm : xs.length = m at *
  generalize hn : ys.length = n at *
  have HM := Lib.hid hm
  have HN := Lib.hid hn
  have HS := Lib.hid hs
  have HU := Lib.hid ht
  clear hs ht hm hn hL
  go_enter Tryd.func63, Tryd.ntmps63
  go_wp2_with fail
  refine (specSV_b HS.out t0 t1 vx).mono ?_
  rintro e w1 ⟨rfl, hb1⟩
  have hz1 := hb1.size
  go_wp2_with fail
  refine (specSV_b (HU.out.below hb1) t0 t1 vy).mono ?_
  rintro e w2 ⟨rfl, hb2⟩
  have hw2 := hb1.trans (hb2.mono hz1)
  have hz2 := hw2.size
  have HS2 := Lib.hid (HS.out.below hw2)
  have HU2 := Lib.hid (HU.out.below hw2)
  clear hb1 hb2 hz1 vx vy
  have hal : Below w2.heap.size w2 (w2.alloc (.cells #[] 70)) := (Below.refl _ _).alloc (Nat.le_refl _) _
  obtain ⟨v5, w5, hrun, ho5, hb5⟩ := run_append_copy (sz := 2) (enc := Sp.enc) (by omega) (fun _ => rfl) (P := Tryd.prog) (w := w2.alloc (.cells #[] 70)) 71 71 70 i0 _ 16 Tryd.underlying71 hi hy0 hy1 hy2 rfl ⟨w2.heap.size, 0, none⟩ (litOwn 70 2 Sp.enc (base := w2.heap.size) (w := w2) (Nat.le_refl _)) hal.size (v := .slice ua m uc) (xs := xs) (SlFr.at (SlFr.below HS2.out hal)) (by rw [HM.out]; omega)
  have HO5 := Lib.hid (show OwnSp w2.heap.size w5 v5 xs from ho5)
  have hb25 := hal.trans (hb5.mono hal.size)
  clear ho5 hb5 hal
  go_wp2_with (at_builtin; refine wpList_append_run rfl _ _ 71 rfl rfl rfl hrun ?_)
  go_loopw [7, 8] (fun o i wr => ∃ k : Nat, k ≤ n ∧ i = .int .i64 k ∧ Hid (OwnSp w2.heap.size wr o (suni xs (ys.take k))) ∧ Hid ((suni xs (ys.take k)).length ≤ 40 + k) ∧ Hid (InT t (suni xs (ys.take k))) ∧ Below w2.heap.size w2 wr) (fun _ i _ => n - (intOf i).toNat)
  case atStart => exact ⟨0, by omega, rfl, HO5, Lib.hid (by rw [List.take_zero]; simp only [suni]; rw [HM.out]; omega), HTX, hb25⟩
  case round =>
    clear HO5 hb25 hrun
    obtain ⟨k, hk, rfl, HO, HLk, HI, hbr⟩ := hrel
    have hzr := hbr.size
    have hwr := hw2.trans (hbr.mono hz2)
    by_cases hlt : k < n
    · have i1 : (k : Int) < (n : Int) := by omega
      have i2 : (0 : Int) ≤ (k : Int) := by omega
      obtain ⟨b, o, f1, f2, rfl, hbl, hx1, d0, d1⟩ := HU2.out.at (show k < ys.length by rw [HN.out]; exact hlt)
      obtain ⟨j0, j1, j2⟩ := HT.out k _ hx1
      simp only at j0 j1 j2
      have e0 := (hbr.cell (p := ⟨b, o + k * 2, none⟩) hbl).trans d0
      have e1 := (hbr.cell (p := ⟨b, o + k * 2 + 1, none⟩) hbl).trans d1
      have hbl2 := Nat.lt_of_lt_of_le hbl hzr
      have HST := Lib.hid (show suni xs (ys.take (k + 1)) = sadd (suni xs (ys.take k)) false ⟨f1, f2⟩ by rw [List.take_add_one, hx1, Option.toList_some, suni_snoc])
      have HLk2 := Lib.hid (show (suni xs (ys.take k)).length ≤ 100 by have := HLk.out; omega)
      clear hx1 d0 d1
      generalize suni xs (ys.take k) = Q at *
      go_wp2_with fail
      refine (l1Add_e (OwnSp.sps HO.out) HLk2.out HI.out t1 j0 j1 j2).mono ?_
      rintro e w6 ⟨z6, rfl, ho6, hl6, hi6, hb6⟩
      have hw6 := hbr.trans (hb6.mono hzr)
      have HO6 := Lib.hid (OwnSl.mono ho6 hzr)
      rw [← HST.out] at hl6 hi6 HO6
      have HL6 := Lib.hid hl6
      have HI6 := Lib.hid hi6
      clear ho6 hl6 hi6 hb6
      go_wp2
      go_roundw
      case rel => exact ⟨k + 1, by omega, by go_num, HO6, Lib.hid (by have h1 := HL6.out; have h2 := HLk.out; omega), HI6, hw6⟩
      case measure => simp [intOf]; omega
    · have hkn : k = n := by omega
      have HF := Lib.hid (show suni xs (ys.take k) = L by rw [List.take_of_length_le (by rw [HN.out]; omega)]; exact HL.out)
      rw [HF.out] at HO HLk
      obtain ⟨oa, oc, rfl, -, -⟩ := (OwnSp.sps HO.out).form
      have HSL := Lib.hid (show slim L = if L.length ≤ 40 then L else [] from rfl)
      generalize hll : L.length = l at *
      have HLL := Lib.hid hll
      clear hll
      by_cases hl : l ≤ 40
      · have hl2 : (l : Int) ≤ 40 := by omega
        rw [if_pos hl] at HSL
        go_wp2
        go_ret
        exact ⟨_, rfl, by rw [HSL.out]; exact OwnSl.mono HO.out hz2, hwr⟩
      · have hl2 : ¬ (l : Int) ≤ 40 := by omega
        rw [if_neg hl] at HSL
        go_wp2
        go_ret
        exact ⟨_, rfl, by rw [HSL.out]; exact litOwn 70 2 Sp.enc (by have := hwr.size; omega), hwr.alloc hwr.size _⟩
theorem bdiff_some {a b : Bx} (ha : bvalid a = true) (hb : bvalid b = true) (h : bwithin a b = false) : bdiff a b 4 ≠ [] := by
  intro e
  have hk : ∀ n, n < 4 → a.getD n [] = b.getD n [] := fun n hn => by
    by_cases e2 : a.getD n [] = b.getD n []
    · exact e2
    · have : n ∈ bdiff a b 4 := bdiff_mem.2 ⟨hn, e2⟩
      rw [e] at this
      cases this
  have : bwithin a b = true := (bwithin_iff ha hb).2 (.inr (fun n hn x hx => by rw [← hk n hn]; exact hx))
  rw [h] at this
  cases this
theorem bdiff_mono (a b : Bx) {k : Nat} : ∀ m, k ≤ m → (bdiff a b k).length ≤ (bdiff a b m).length
  | 0, h => by rw [show k = 0 by omega]; exact Nat.le_refl _
  | m + 1, h => by
    by_cases e : k = m + 1
    · rw [e]; exact Nat.le_refl _
    · rw [bdiff_succ, List.length_append]
      exact Nat.le_trans (bdiff_mono a b m (by omega)) (Nat.le_add_right _ _)
theorem mergeU_ne {a b : Bx} (ha : bvalid a = true) (hb : bvalid b = true) {f : Nat} (hd : bdiff a b 4 = [f]) : mergeU a b f ≠ [] := by
  intro e
  have hm : f ∈ bdiff a b 4 := by rw [hd]; exact List.mem_singleton.2 rfl
  obtain ⟨hf, hne⟩ := bdiff_mem.1 hm
  have key : ∀ x, shas (a.getD f []) x = false ∧ shas (b.getD f []) x = false := fun x => by
    have := mergeU_has ha hb hf x
    rw [e] at this
    simpa [shas] using this.symm
  have h1 : (a.getD f []).isEmpty = true := (sempty_iff (bgood ha hf)).2 (fun x => (key x).1)
  have h2 : (b.getD f []).isEmpty = true := (sempty_iff (bgood hb hf)).2 (fun x => (key x).2)
  rw [List.isEmpty_iff] at h1 h2
  exact hne (h1.trans h2.symm)
/-- Which set differs: none so far, or one. -/
def DfI (a b : Bx) (k : Nat) (d : Value) : Prop := (bdiff a b k = [] ∧ d = .int .i64 (-1)) ∨ ∃ f : Nat, f < 4 ∧ bdiff a b k = [f] ∧ d = .int .i64 (f : Int)
set_option maxHeartbeats 4000000 in
set_option maxRecDepth 100000 in
theorem specMB_v {lo lo' : Nat} {a b : Bx} {R : Option Bx} {u v : Value} {w : World} (hs : Rws lo w u a) (hu : Rws lo' w v b) (h : mergeV a b = R) :
    Calls Tryd.prog 24 #[.agg #[u], .agg #[v]] w fun e w' => ∃ z, e = .returned (.tuple #[.agg #[z], .bool R.isSome]) ∧ RwV (fun k => k < w.heap.size) w' z (R.getD []) ∧ Below w.heap.size w w' := by
  obtain ⟨ua, uc, rfl, -, -⟩ := hs.form
  obtain ⟨va, vc, rfl, -, -⟩ := hu.form
  obtain ⟨ra, hra⟩ : ∃ r, bvalid a = r := ⟨_, rfl⟩
  obtain ⟨rb, hrb⟩ : ∃ r, bvalid b = r := ⟨_, rfl⟩
  have HRA := Lib.hid hra
  have HRB := Lib.hid hrb
  have HS := Lib.hid hs
  have HU := Lib.hid hu
  have HR := Lib.hid h
  clear hs hu h
  have hal : Below w.heap.size w (((w.alloc (.cells #[.slice ua a.length uc] 32)).alloc (.cells #[.slice va b.length vc] 32)).alloc (.cells #[.slice none 0 0] 32)) := by (repeat' (first | with_reducible exact Below.refl _ _ | with_reducible assumption | with_reducible refine Below.setCell ?_ ?_ _ | with_reducible refine Below.alloc ?_ ?_ _ | with_reducible refine Below.drew ?_ | with_reducible refine belDrewN ?_ _ | with_reducible refine Below.trans ?_ (Below.mono (by assumption) ?_) | omega | (simp; omega) | (simp; done)))
  have HA3 := alloc3_cells w #[.slice ua a.length uc] #[.slice va b.length vc] #[.slice none 0 0] 32 32 32
  obtain ⟨W, hW⟩ : ∃ W, ((w.alloc (.cells #[.slice ua a.length uc] 32)).alloc (.cells #[.slice va b.length vc] 32)).alloc (.cells #[.slice none 0 0] 32) = W := ⟨_, rfl⟩
  have qs : W.heap.size = w.heap.size + 1 + 1 + 1 := by rw [← hW]; simp
  rw [hW] at HA3 hal
  have q0 : W.cell? ⟨w.heap.size, 0, none⟩ = some (.slice ua a.length uc) := by rw [HA3.1 0]; rfl
  have p0 : W.cell? ⟨w.heap.size + 1, 0, none⟩ = some (.slice va b.length vc) := by rw [(HA3.2.1 0).1]; rfl
  have r0 : W.cell? ⟨w.heap.size + 1 + 1, 0, none⟩ = some (.slice none 0 0) := by rw [(HA3.2.2 0).1]; rfl
  have n0 : W.frozen? ⟨w.heap.size + 1 + 1, 0, none⟩ = false := (HA3.2.2 0).2
  have HC := Lib.hid (And.intro q0 (And.intro p0 (And.intro r0 n0)))
  generalize hla : a.length = la at *
  generalize hlb : b.length = lb at *
  clear HA3
  go_enter Tryd.func24, Tryd.ntmps24
  go_wp2_with fail
  refine (specBV_b (HS.out.below hal) hra).mono ?_
  rintro e w1 ⟨rfl, hb1⟩
  have hz1 := hb1.size
  have hw1 := hal.trans (hb1.mono hal.size)
  have p1 := (hb1.cell (p := ⟨w.heap.size + 1, 0, none⟩) (by simp only; omega)).trans HC.out.2.1
  have r1 := (hb1.cell (p := ⟨w.heap.size + 1 + 1, 0, none⟩) (by simp only; omega)).trans HC.out.2.2.1
  have n1 := (hb1.frozen (p := ⟨w.heap.size + 1 + 1, 0, none⟩) (by simp only; omega)).trans HC.out.2.2.2
  clear q0 p0 r0 n0 hW hra
  cases ra
  · have HM := Lib.hid (show R = none by rw [← HR.out]; exact mergeV_no (.inl HRA.out))
    have hwW : Below w.heap.size w (w1.setCell ⟨w.heap.size + 1 + 1, 0, none⟩ (.slice none 0 0)) := hw1.setCell (by simp only; omega) _
    go_wp2
    refine bodyPost_ret (v := .tuple #[.agg #[.slice none 0 0], .bool false]) ?_ rfl ⟨_, by rw [HM.out]; rfl, ?_, hwW⟩
    · simp [results, Tryd.results24, go_sem, r1]
    · rw [HM.out]; exact RwV.high (GRw.nil _ hwW.size).rws (fun _ h => h)
  · go_wp2_with fail
    refine (specBV_b (HU.out.below hw1) hrb).mono ?_
    rintro e w2 ⟨rfl, hb2⟩
    have hbW2 := hb1.trans (hb2.mono hz1)
    have hz2 := hbW2.size
    have hw2 := hal.trans (hbW2.mono hal.size)
    have cq2 := (hbW2.cell (p := ⟨w.heap.size, 0, none⟩) (by simp only; omega)).trans HC.out.1
    have cp2 := (hbW2.cell (p := ⟨w.heap.size + 1, 0, none⟩) (by simp only; omega)).trans HC.out.2.1
    have cr2 := (hbW2.cell (p := ⟨w.heap.size + 1 + 1, 0, none⟩) (by simp only; omega)).trans HC.out.2.2.1
    have cn2 := (hbW2.frozen (p := ⟨w.heap.size + 1 + 1, 0, none⟩) (by simp only; omega)).trans HC.out.2.2.2
    clear p1 r1 n1 hb1 hb2 hrb hz1
    cases rb
    · have HM := Lib.hid (show R = none by rw [← HR.out]; exact mergeV_no (.inr HRB.out))
      have hwW : Below w.heap.size w (w2.setCell ⟨w.heap.size + 1 + 1, 0, none⟩ (.slice none 0 0)) := hw2.setCell (by simp only; omega) _
      clear cq2 cp2
      go_wp2
      refine bodyPost_ret (v := .tuple #[.agg #[.slice none 0 0], .bool false]) ?_ rfl ⟨_, by rw [HM.out]; rfl, ?_, hwW⟩
      · simp [results, Tryd.results24, go_sem, cr2]
      · rw [HM.out]; exact RwV.high (GRw.nil _ hwW.size).rws (fun _ h => h)
    · have HMB := Lib.hid (show mergeB a b = R by rw [← HR.out]; exact (mergeV_yes HRA.out HRB.out).symm)
      obtain ⟨r1w, hr1⟩ : ∃ r, bwithin a b = r := ⟨_, rfl⟩
      have HW1 := Lib.hid hr1
      have hla4 : la = 4 := by rw [← hla]; exact (bvalid_four HRA.out).1
      have hlb4 : lb = 4 := by rw [← hlb]; exact (bvalid_four HRB.out).1
      subst hla4 hlb4
      go_wp2_with fail
      refine (specBW_b (HS.out.below hw2) (HU.out.below hw2) HRA.out HRB.out hr1).mono ?_
      rintro e w3 ⟨rfl, hb3⟩
      have hbW3 := hbW2.trans (hb3.mono hz2)
      have hz3 := hbW3.size
      have hw3 := hal.trans (hbW3.mono hal.size)
      have cq3 := (hbW3.cell (p := ⟨w.heap.size, 0, none⟩) (by simp only; omega)).trans HC.out.1
      have cp3 := (hbW3.cell (p := ⟨w.heap.size + 1, 0, none⟩) (by simp only; omega)).trans HC.out.2.1
      have cr3 := (hbW3.cell (p := ⟨w.heap.size + 1 + 1, 0, none⟩) (by simp only; omega)).trans HC.out.2.2.1
      have cn3 := (hbW3.frozen (p := ⟨w.heap.size + 1 + 1, 0, none⟩) (by simp only; omega)).trans HC.out.2.2.2
      clear cq2 cp2 cr2 cn2 hb3 hr1 hbW2 hz2 hw2
      have hAN : a.length ≤ 1048576 := by rw [hla]; decide
      have hBN : b.length ≤ 1048576 := by rw [hlb]; decide
      have HLA := Lib.hid (fun (k : Nat) (xs : List Sp) (hx : a[k]? = some xs) => (show xs.length ≤ 1048576 by have := bvalid_lens HRA.out k xs hx; omega))
      have HLB := Lib.hid (fun (k : Nat) (xs : List Sp) (hx : b[k]? = some xs) => (show xs.length ≤ 1048576 by have := bvalid_lens HRB.out k xs hx; omega))
      cases r1w
      · obtain ⟨r2w, hr2⟩ : ∃ r, bwithin b a = r := ⟨_, rfl⟩
        have HW2 := Lib.hid hr2
        go_wp2_with fail
        refine (specBW_b (HU.out.below hw3) (HS.out.below hw3) HRB.out HRA.out hr2).mono ?_
        rintro e w4 ⟨rfl, hb4⟩
        have hbW4 := hbW3.trans (hb4.mono hz3)
        have hz4 := hbW4.size
        have hw4 := hal.trans (hbW4.mono hal.size)
        have cq4 := (hbW4.cell (p := ⟨w.heap.size, 0, none⟩) (by simp only; omega)).trans HC.out.1
        have cp4 := (hbW4.cell (p := ⟨w.heap.size + 1, 0, none⟩) (by simp only; omega)).trans HC.out.2.1
        have cr4 := (hbW4.cell (p := ⟨w.heap.size + 1 + 1, 0, none⟩) (by simp only; omega)).trans HC.out.2.2.1
        have cn4 := (hbW4.frozen (p := ⟨w.heap.size + 1 + 1, 0, none⟩) (by simp only; omega)).trans HC.out.2.2.2
        clear cq3 cp3 cr3 cn3 hb4 hr2 hbW3 hz3 hw3
        cases r2w
        · have HND := Lib.hid (bdiff_some HRA.out HRB.out HW1.out)
          go_wp2_with fail
          go_loopw [6, 7] (fun fd i wr => ∃ k : Nat, k ≤ 4 ∧ i = .int .i64 k ∧ DfI a b k fd ∧ Below W.heap.size W wr) (fun _ i _ => 4 - (intOf i).toNat)
          case atStart => exact ⟨0, by omega, rfl, .inl ⟨rfl, rfl⟩, hbW4⟩
          case round =>
            clear cq4 cp4 cr4 cn4
            obtain ⟨k, hk4, rfl, HD, hbr⟩ := hrel
            have hzr := hbr.size
            have hwr := hal.trans (hbr.mono hal.size)
            have cq := (hbr.cell (p := ⟨w.heap.size, 0, none⟩) (by simp only; omega)).trans HC.out.1
            have cp := (hbr.cell (p := ⟨w.heap.size + 1, 0, none⟩) (by simp only; omega)).trans HC.out.2.1
            have cr := (hbr.cell (p := ⟨w.heap.size + 1 + 1, 0, none⟩) (by simp only; omega)).trans HC.out.2.2.1
            have cn := (hbr.frozen (p := ⟨w.heap.size + 1 + 1, 0, none⟩) (by simp only; omega)).trans HC.out.2.2.2
            by_cases hlt : k < 4
            · have i1 : (k : Int) < 4 := by omega
              have i2 : (0 : Int) ≤ (k : Int) := by omega
              have HDD := Lib.hid HD
              obtain ⟨x, hx, vx⟩ := bvalid_get HRA.out hlt
              obtain ⟨y, hy, vy⟩ := bvalid_get HRB.out hlt
              obtain ⟨ba, oa, sv, rfl, hba, d0, hss⟩ := (HS.out.below hwr).at hx
              obtain ⟨bb, ob, tv, rfl, hbb, d1, htt⟩ := (HU.out.below hwr).at hy
              obtain ⟨sa, sc, rfl, -, -⟩ := hss.form
              obtain ⟨ta, tc, rfl, -, -⟩ := htt.form
              have HSV := Lib.hid hss
              have HTV := Lib.hid htt
              obtain ⟨r, hr⟩ : ∃ r, decide (x = y) = r := ⟨_, rfl⟩
              have HRR := Lib.hid hr
              have HST := Lib.hid (bdiff_step hx hy hr)
              have hl1 : w.heap.size < wr.heap.size := by omega
              have hl2 : w.heap.size + 1 < wr.heap.size := by omega
              generalize x.length = xl at *
              generalize y.length = yl at *
              clear hx hy vx vy hss htt hr HD
              go_wp2_with fail
              (refine wp_region_bel (W := wr) [BIs (.pointer (some ⟨w.heap.size, 0, none⟩)), BIs (.slice (some ⟨ba, oa, none⟩) 4 uc), BIs (.int .i64 (k : Int)), BIs (.pointer (some ⟨ba, oa + k, none⟩)), BIs (.slice sa xl sc), BIs (.pointer (some ⟨w.heap.size + 1, 0, none⟩)), BIs (.slice (some ⟨bb, ob, none⟩) 4 vc), BIs (.int .i64 (k : Int)), BIs (.pointer (some ⟨bb, ob + k, none⟩)), BIs (.slice ta yl tc), (BIs (.bool r)), BIs (.bool (!r))] (by kernel_rfl) (fun u => by simp only [frU, Act.put, List.setIfInBounds_toArray, List.set_cons_succ, List.set_cons_zero, Nat.zero_add, Nat.reduceAdd]; exact rfl) (by kernel_rfl) ⟨bst_is _, bst_is _, bst_is _, bst_is _, bst_is _, bst_is _, bst_is _, bst_is _, bst_is _, bst_is _, (bst_is _), bst_is _, trivial⟩ ?_ ?_; exact ⟨stB rfl (fun u w3 hC hd Q K hK => by (go_step; exact hK _ _ rfl (Below.refl _ _) rfl)), stB rfl (fun u w3 hC hd Q K hK => by (have hu := bis (w := w3) (hd 0 rfl); rw [hu] at hK ⊢; clear hu; have z0 := (hC.cell (p := ⟨w.heap.size, 0, none⟩) hl1).trans cq; go_step; exact hK _ _ rfl (Below.refl _ _) rfl)), stB rfl (fun u w3 hC hd Q K hK => by (go_step; exact hK _ _ rfl (Below.refl _ _) rfl)), stB rfl (fun u w3 hC hd Q K hK => by (have hu := bis (w := w3) (hd 1 rfl); rw [hu] at hK ⊢; clear hu; have hu := bis (w := w3) (hd 2 rfl); rw [hu] at hK ⊢; clear hu; go_step; exact hK _ _ rfl (Below.refl _ _) rfl)), stB rfl (fun u w3 hC hd Q K hK => by (have hu := bis (w := w3) (hd 3 rfl); rw [hu] at hK ⊢; clear hu; have z0 := (hC.cell (p := ⟨ba, oa + k, none⟩) hba).trans d0; go_step; exact hK _ _ rfl (Below.refl _ _) rfl)), stB rfl (fun u w3 hC hd Q K hK => by (go_step; exact hK _ _ rfl (Below.refl _ _) rfl)), stB rfl (fun u w3 hC hd Q K hK => by (have hu := bis (w := w3) (hd 5 rfl); rw [hu] at hK ⊢; clear hu; have z0 := (hC.cell (p := ⟨w.heap.size + 1, 0, none⟩) hl2).trans cp; go_step; exact hK _ _ rfl (Below.refl _ _) rfl)), stB rfl (fun u w3 hC hd Q K hK => by (go_step; exact hK _ _ rfl (Below.refl _ _) rfl)), stB rfl (fun u w3 hC hd Q K hK => by (have hu := bis (w := w3) (hd 6 rfl); rw [hu] at hK ⊢; clear hu; have hu := bis (w := w3) (hd 7 rfl); rw [hu] at hK ⊢; clear hu; go_step; exact hK _ _ rfl (Below.refl _ _) rfl)), stB rfl (fun u w3 hC hd Q K hK => by (have hu := bis (w := w3) (hd 8 rfl); rw [hu] at hK ⊢; clear hu; have z0 := (hC.cell (p := ⟨bb, ob + k, none⟩) hbb).trans d1; go_step; exact hK _ _ rfl (Below.refl _ _) rfl)), stB rfl (fun u w3 hC hd Q K hK => by (have hu := bis (w := w3) (hd 4 rfl); rw [hu] at hK ⊢; clear hu; have hu := bis (w := w3) (hd 9 rfl); rw [hu] at hK ⊢; clear hu; go_step; refine (l15Same_b (HSV.out.below hC) (HTV.out.below hC) HRR.out).mono ?_; rintro e w4 ⟨rfl, hb4⟩; exact hK _ _ rfl hb4 rfl)), stB rfl (fun u w3 hC hd Q K hK => by (have hu := bis (w := w3) (hd 10 rfl); rw [hu] at hK ⊢; clear hu; go_step; exact hK _ _ rfl (Below.refl _ _) rfl)), trivial⟩); intro u w9 hb_w9 hF; rw [bis (w := w9) (hF 0 (by decide))]; rw [bis (w := w9) (hF 1 (by decide))]; rw [bis (w := w9) (hF 2 (by decide))]; rw [bis (w := w9) (hF 3 (by decide))]; rw [bis (w := w9) (hF 4 (by decide))]; rw [bis (w := w9) (hF 5 (by decide))]; rw [bis (w := w9) (hF 6 (by decide))]; rw [bis (w := w9) (hF 7 (by decide))]; rw [bis (w := w9) (hF 8 (by decide))]; rw [bis (w := w9) (hF 9 (by decide))]; generalize u 10 = vx10 at *; rw [bis (w := w9) (hF 11 (by decide))]; clear hF
              have hb9 : Below W.heap.size W w9 := hbr.trans (hb_w9.mono hzr)
              have cr9 := (hb_w9.cell (p := ⟨w.heap.size + 1 + 1, 0, none⟩) (by simp only; omega)).trans cr
              have cn9 := (hb_w9.frozen (p := ⟨w.heap.size + 1 + 1, 0, none⟩) (by simp only; omega)).trans cn
              have hw9 := hal.trans (hb9.mono hal.size)
              have hz9 := hb9.size
              clear hb_w9 d0 d1 cq cp cr cn
              cases r
              · rcases HDD.out with ⟨hd0, rfl⟩ | ⟨f, hf4, hd1, rfl⟩
                · have HD2 := Lib.hid (show bdiff a b (k + 1) = [k] by rw [HST.out, hd0]; rfl)
                  go_wp2
                  go_roundw
                  case rel => exact ⟨k + 1, by omega, by go_num, .inr ⟨k, hlt, HD2.out, rfl⟩, hb9⟩
                  case measure => simp [intOf]; omega
                · have HM := Lib.hid (show R = none by
                    rw [← HMB.out]
                    refine mergeB_no HW1.out HW2.out ?_
                    have h1 := bdiff_mono a b (k := k + 1) 4 (by omega)
                    rw [HST.out, hd1] at h1
                    simp at h1
                    omega)
                  have hwW : Below w.heap.size w (w9.setCell ⟨w.heap.size + 1 + 1, 0, none⟩ (.slice none 0 0)) := hw9.setCell (by simp only; omega) _
                  have hf0 : (0 : Int) ≤ (f : Int) := by omega
                  go_wp2
                  refine bodyPost_ret (v := .tuple #[.agg #[.slice none 0 0], .bool false]) ?_ rfl ⟨_, by rw [HM.out]; rfl, ?_, hwW⟩
                  · simp [results, Tryd.results24, go_sem, cr9]
                  · rw [HM.out]; exact RwV.high (GRw.nil _ hwW.size).rws (fun _ h => h)
              · have HD2 := Lib.hid (show bdiff a b (k + 1) = bdiff a b k by rw [HST.out]; simp)
                have HD3 := Lib.hid (show DfI a b (k + 1) u6 by unfold DfI; rw [HD2.out]; exact HDD.out)
                go_wp2
                go_roundw
                case rel => exact ⟨k + 1, by omega, by go_num, HD3.out, hb9⟩
                case measure => simp [intOf]; omega
            · have hkn : k = 4 := by omega
              subst hkn
              rcases HD with ⟨hd0, _⟩ | ⟨f, hf4, hd1, rfl⟩
              · exact absurd hd0 HND.out
              · go_wp2_with fail
                refine (ownRows_any a _ wr (HS.out.below hwr) hAN HLA.out).mono ?_
                rintro e w5 ⟨z5, rfl, ho5, hb5⟩
                have hb5W := hbr.trans (hb5.mono hzr)
                have hw5 := hwr.trans (hb5.mono hwr.size)
                have hz5 := hb5.size
                have cq5 := (hb5W.cell (p := ⟨w.heap.size, 0, none⟩) (by simp only; omega)).trans HC.out.1
                have cp5 := (hb5W.cell (p := ⟨w.heap.size + 1, 0, none⟩) (by simp only; omega)).trans HC.out.2.1
                have cr5 := (hb5W.cell (p := ⟨w.heap.size + 1 + 1, 0, none⟩) (by simp only; omega)).trans HC.out.2.2.1
                have cn5 := (hb5W.frozen (p := ⟨w.heap.size + 1 + 1, 0, none⟩) (by simp only; omega)).trans HC.out.2.2.2
                obtain ⟨g5, gc5, rfl, hg1, hg2, hg3, hg4⟩ := ho5.ptr (by rw [hla]; omega)
                have HO5 := Lib.hid ho5
                rw [hla]
                obtain ⟨x, hx, vx⟩ := bvalid_get HRA.out hf4
                obtain ⟨y, hy, vy⟩ := bvalid_get HRB.out hf4
                obtain ⟨ba, oa, sv, rfl, hba, d0, hss⟩ := (HS.out.below hw5).at hx
                obtain ⟨bb, ob, tv, rfl, hbb, d1, htt⟩ := (HU.out.below hw5).at hy
                obtain ⟨sa, sc, rfl, -, -⟩ := hss.form
                obtain ⟨ta, tc, rfl, -, -⟩ := htt.form
                have HSV := Lib.hid hss
                have HTV := Lib.hid htt
                obtain ⟨L, hL⟩ : ∃ L, mergeU a b f = L := ⟨_, rfl⟩
                have HLU := Lib.hid ((mergeU_get hx hy).trans hL)
                have HLL := Lib.hid hL
                have HVX := Lib.hid vx
                have HVY := Lib.hid vy
                obtain ⟨t0, t1⟩ := top_le hf4
                have i1 : (f : Int) < 4 := by omega
                have i2 : (0 : Int) ≤ (f : Int) := by omega
                have hal5 : Below w5.heap.size w5 (w5.alloc (.cells #[.slice (some ⟨g5, 0, none⟩) 4 gc5] 32)) := (Below.refl _ _).alloc (Nat.le_refl _) _
                have hx0 : (w5.alloc (.cells #[.slice (some ⟨g5, 0, none⟩) 4 gc5] 32)).cell? ⟨w5.heap.size, 0, none⟩ = some (.slice (some ⟨g5, 0, none⟩) 4 gc5) := by simp
                have hxz : (w5.alloc (.cells #[.slice (some ⟨g5, 0, none⟩) 4 gc5] 32)).heap.size = w5.heap.size + 1 := by simp
                obtain ⟨og, hog⟩ := hg4 f (by rw [hla]; exact hf4)
                have hfz := hg3 f
                generalize x.length = xl at *
                generalize y.length = yl at *
                clear cq cp cr cn ho5 hb5W hx hy vx vy hss htt hL hg3 hg4
                go_wp2_with fail
                obtain ⟨W6, hW6⟩ : ∃ W6, (w5.alloc (.cells #[.slice (some ⟨g5, 0, none⟩) 4 gc5] 32)) = W6 := ⟨_, rfl⟩
                rw [hW6] at hal5 hx0 hxz ⊢
                clear hW6
                have hw6 := hw5.trans (hal5.mono hw5.size)
                have hog6 := (hal5.cell (p := ⟨g5, f, none⟩) hg2).trans hog
                have hfz6 := (hal5.frozen (p := ⟨g5, f, none⟩) hg2).trans hfz
                have cq6 := (hal5.cell (p := ⟨w.heap.size, 0, none⟩) (by simp only; omega)).trans cq5
                have cp6 := (hal5.cell (p := ⟨w.heap.size + 1, 0, none⟩) (by simp only; omega)).trans cp5
                have d06 := (hal5.cell (p := ⟨ba, oa + f, none⟩) hba).trans d0
                have d16 := (hal5.cell (p := ⟨bb, ob + f, none⟩) hbb).trans d1
                have l1 : w.heap.size < W6.heap.size := by omega
                have l2 : w.heap.size + 1 < W6.heap.size := by omega
                have l3 : w5.heap.size < W6.heap.size := by omega
                have l4 : ba < W6.heap.size := by omega
                have l5 : bb < W6.heap.size := by omega
                have l6 : g5 < W6.heap.size := by omega
                refine wp_region_last (fun _ w => Below W6.heap.size W6 w) (fun a b => Below a.heap.size a b) (bof [BIs (.pointer (some ⟨w5.heap.size, 0, none⟩)), BIs (.slice (some ⟨g5, 0, none⟩) 4 gc5), BIs (.int .i64 (f : Int)), BIs (.pointer (some ⟨w.heap.size, 0, none⟩)), BIs (.slice (some ⟨ba, oa, none⟩) 4 uc), BIs (.int .i64 (f : Int)), BIs (.pointer (some ⟨ba, oa + f, none⟩)), BIs (.slice sa xl sc), BIs (.pointer (some ⟨w.heap.size + 1, 0, none⟩)), BIs (.slice (some ⟨bb, ob, none⟩) 4 vc), BIs (.int .i64 (f : Int)), BIs (.pointer (some ⟨bb, ob + f, none⟩)), BIs (.slice ta yl tc), BIs (.int .i64 (f : Int)), (BIs (.int .i64 (top f))), (fun w v => OwnSp W6.heap.size w v (slim L)), BIs (.pointer (some ⟨g5, f, none⟩))]) (fun _ _ _ => True) (fun w9 => ∃ wx za zc, OwnSp W6.heap.size wx (.slice za (slim L).length zc) (slim L) ∧ Below W6.heap.size W6 wx ∧ w9 = wx.setCell ⟨g5, f, none⟩ (.slice za (slim L).length zc)) 17 (by kernel_rfl) rfl (fun u => by simp only [frU, Act.put, List.setIfInBounds_toArray, List.set_cons_succ, List.set_cons_zero, Nat.zero_add, Nat.reduceAdd]; exact rfl) (by kernel_rfl) (by kernel_rfl) (fun iz wz wy vz hbz hz => bof_stb [BIs (.pointer (some ⟨w5.heap.size, 0, none⟩)), BIs (.slice (some ⟨g5, 0, none⟩) 4 gc5), BIs (.int .i64 (f : Int)), BIs (.pointer (some ⟨w.heap.size, 0, none⟩)), BIs (.slice (some ⟨ba, oa, none⟩) 4 uc), BIs (.int .i64 (f : Int)), BIs (.pointer (some ⟨ba, oa + f, none⟩)), BIs (.slice sa xl sc), BIs (.pointer (some ⟨w.heap.size + 1, 0, none⟩)), BIs (.slice (some ⟨bb, ob, none⟩) 4 vc), BIs (.int .i64 (f : Int)), BIs (.pointer (some ⟨bb, ob + f, none⟩)), BIs (.slice ta yl tc), BIs (.int .i64 (f : Int)), (BIs (.int .i64 (top f))), (fun w v => OwnSp W6.heap.size w v (slim L)), BIs (.pointer (some ⟨g5, f, none⟩))] ⟨bst_is _, bst_is _, bst_is _, bst_is _, bst_is _, bst_is _, bst_is _, bst_is _, bst_is _, bst_is _, bst_is _, bst_is _, bst_is _, bst_is _, (bst_is _), (fun _ _ _ hb h => OwnSl.kept h hb), bst_is _, trivial⟩ iz wz wy vz hbz hz) ⟨rfl, rfl, rfl, Nat.le_refl _, fun _ _ => rfl⟩ ?_ ?_; (exact ⟨stSb rfl (fun u w3 hC hd Q K hK => by (go_step; exact hK _ _ rfl (Below.refl _ _) rfl)), stSb rfl (fun u w3 hC hd Q K hK => by (have hu := bis (w := w3) (hd 0 rfl); rw [hu] at hK ⊢; clear hu; have z0 := (hC.cell (p := ⟨w5.heap.size, 0, none⟩) l3).trans hx0; go_step; exact hK _ _ rfl (Below.refl _ _) rfl)), stSb rfl (fun u w3 hC hd Q K hK => by (go_step; exact hK _ _ rfl (Below.refl _ _) rfl)), stSb rfl (fun u w3 hC hd Q K hK => by (go_step; exact hK _ _ rfl (Below.refl _ _) rfl)), stSb rfl (fun u w3 hC hd Q K hK => by (have hu := bis (w := w3) (hd 3 rfl); rw [hu] at hK ⊢; clear hu; have z0 := (hC.cell (p := ⟨w.heap.size, 0, none⟩) l1).trans cq6; go_step; exact hK _ _ rfl (Below.refl _ _) rfl)), stSb rfl (fun u w3 hC hd Q K hK => by (go_step; exact hK _ _ rfl (Below.refl _ _) rfl)), stSb rfl (fun u w3 hC hd Q K hK => by (have hu := bis (w := w3) (hd 4 rfl); rw [hu] at hK ⊢; clear hu; have hu := bis (w := w3) (hd 5 rfl); rw [hu] at hK ⊢; clear hu; go_step; exact hK _ _ rfl (Below.refl _ _) rfl)), stSb rfl (fun u w3 hC hd Q K hK => by (have hu := bis (w := w3) (hd 6 rfl); rw [hu] at hK ⊢; clear hu; have z0 := (hC.cell (p := ⟨ba, oa + f, none⟩) l4).trans d06; go_step; exact hK _ _ rfl (Below.refl _ _) rfl)), stSb rfl (fun u w3 hC hd Q K hK => by (go_step; exact hK _ _ rfl (Below.refl _ _) rfl)), stSb rfl (fun u w3 hC hd Q K hK => by (have hu := bis (w := w3) (hd 8 rfl); rw [hu] at hK ⊢; clear hu; have z0 := (hC.cell (p := ⟨w.heap.size + 1, 0, none⟩) l2).trans cp6; go_step; exact hK _ _ rfl (Below.refl _ _) rfl)), stSb rfl (fun u w3 hC hd Q K hK => by (go_step; exact hK _ _ rfl (Below.refl _ _) rfl)), stSb rfl (fun u w3 hC hd Q K hK => by (have hu := bis (w := w3) (hd 9 rfl); rw [hu] at hK ⊢; clear hu; have hu := bis (w := w3) (hd 10 rfl); rw [hu] at hK ⊢; clear hu; go_step; exact hK _ _ rfl (Below.refl _ _) rfl)), stSb rfl (fun u w3 hC hd Q K hK => by (have hu := bis (w := w3) (hd 11 rfl); rw [hu] at hK ⊢; clear hu; have z0 := (hC.cell (p := ⟨bb, ob + f, none⟩) l5).trans d16; go_step; exact hK _ _ rfl (Below.refl _ _) rfl)), stSb rfl (fun u w3 hC hd Q K hK => by (go_step; exact hK _ _ rfl (Below.refl _ _) rfl)), stSb rfl (fun u w3 hC hd Q K hK => by (have hu := bis (w := w3) (hd 13 rfl); rw [hu] at hK ⊢; clear hu; go_step; refine (specFTop_any f hf4 _).mono ?_; rintro e w4 ⟨rfl, rfl⟩; exact hK _ _ rfl (Below.refl _ _) rfl)), stSb rfl (fun u w3 hC hd Q K hK => by (have hu := bis (w := w3) (hd 7 rfl); rw [hu] at hK ⊢; clear hu; have hu := bis (w := w3) (hd 12 rfl); rw [hu] at hK ⊢; clear hu; have hu := bis (w := w3) (hd 14 rfl); rw [hu] at hK ⊢; clear hu; go_step; refine (specUni_e HLU.out (HSV.out.below (hal5.trans (hC.mono hal5.size))) (HTV.out.below (hal5.trans (hC.mono hal5.size))) HVX.out HVY.out t0 t1).mono ?_; rintro e w4 ⟨z4, rfl, ho4, hb4⟩; exact hK _ _ rfl hb4 (OwnSl.mono ho4 hC.size))), stSb rfl (fun u w3 hC hd Q K hK => by (have hu := bis (w := w3) (hd 1 rfl); rw [hu] at hK ⊢; clear hu; have hu := bis (w := w3) (hd 2 rfl); rw [hu] at hK ⊢; clear hu; go_step; exact hK _ _ rfl (Below.refl _ _) rfl)), ⟨rfl, fun m u w3 hm hC hF Q K hK => by (dsimp only at hK ⊢; have hu := bis (w := w3) (hF 16 (by decide)); rw [hu] at hK ⊢; clear hu; have ho1 := hF 15 (by decide); generalize u 15 = v1 at *; have z0 := (hC.cell (p := ⟨g5, f, none⟩) l6).trans hog6; have z1 := (hC.frozen (p := ⟨g5, f, none⟩) l6).trans hfz6; obtain ⟨za, zc, rfl, -, -⟩ := (OwnSp.sps ho1).form;  go_step; exact hK _ _ rfl ⟨w3, _, _, ho1, hC, rfl⟩ (fun _ _ => trivial))⟩⟩); intro u w9 hD _
                obtain ⟨wx, za, zc, ho9, hbx, rfl⟩ := hD
                have hzx := hbx.size
                have hB9 : Below W.heap.size W wx := ((hbr.trans (hb5.mono hzr)).trans (hal5.mono (by omega))).trans (hbx.mono (by omega))
                have hc9 : (wx.setCell ⟨g5, f, none⟩ (.slice za (slim L).length zc)).cell? ⟨g5, f, none⟩ = some (.slice za (slim L).length zc) := World.cell?_setCell_same' _ _ _ (by rw [hbx.cell (p := ⟨g5, f, none⟩) l6, hog6]; rfl)
                have hx9 : (wx.setCell ⟨g5, f, none⟩ (.slice za (slim L).length zc)).cell? ⟨w5.heap.size, 0, none⟩ = some (.slice (some ⟨g5, 0, none⟩) 4 gc5) := by
                  rw [World.cell?_setCell_other _ _ _ _ (by first | (simp; done) | (simp; omega))]
                  exact (hbx.cell (p := ⟨w5.heap.size, 0, none⟩) l3).trans hx0
                have hr9 : (wx.setCell ⟨g5, f, none⟩ (.slice za (slim L).length zc)).cell? ⟨w.heap.size + 1 + 1, 0, none⟩ = some (.slice none 0 0) := by
                  rw [World.cell?_setCell_other _ _ _ _ (by first | (simp; done) | (simp; omega))]
                  exact (hB9.cell (p := ⟨w.heap.size + 1 + 1, 0, none⟩) (by simp only; omega)).trans HC.out.2.2.1
                have hn9 : (wx.setCell ⟨g5, f, none⟩ (.slice za (slim L).length zc)).frozen? ⟨w.heap.size + 1 + 1, 0, none⟩ = false := by
                  rw [World.frozen?_setCell]
                  exact (hB9.frozen (p := ⟨w.heap.size + 1 + 1, 0, none⟩) (by simp only; omega)).trans HC.out.2.2.2
                have HV9 := Lib.hid (GRw.setV (P := fun j => j < w.heap.size + 1 + 1 + 1) (GRw.kind.keep _ _ _ _ _ _ HO5.out (Kpi.of (hal5.trans (hbx.mono (by omega))))) (fun j hj => by omega) (k := f) (by rw [hla]; exact hf4) (SpV.own2 ho9 (fun j hj => by omega)))
                have hwx := hw6.trans (hbx.mono hw6.size)
                have hg5w : w.heap.size ≤ g5 := by have := hwr.size; omega
                have hw9 : Below w.heap.size w (wx.setCell ⟨g5, f, none⟩ (.slice za (slim L).length zc)) := hwx.setCell hg5w _
                have HME := Lib.hid (mergeB_yes HW1.out HW2.out hd1)
                have HNE := Lib.hid (mergeU_ne HRA.out HRB.out hd1)
                rw [HLL.out] at HME HNE
                have HSL := Lib.hid (show slim L = if L.length ≤ 40 then L else [] from rfl)
                generalize (wx.setCell ⟨g5, f, none⟩ (.slice za (slim L).length zc)) = W9 at *
                clear hog6 hfz6 cq6 cp6 d06 d16 hx0 hog hfz cq5 cp5 cr5 cn5 d0 d1 ho9 hal5
                by_cases hl : L.length ≤ 40
                · have hsl : slim L = L := by rw [HSL.out, if_pos hl]
                  rw [hsl] at hc9 HV9
                  have hl0 : L.length ≠ 0 := fun e => HNE.out (List.eq_nil_of_length_eq_zero e)
                  have hne : ((L.length : Int) == 0) = false := by simpa using hl0
                  have HM := Lib.hid (show R = some (a.set f L) by rw [← HMB.out, HME.out, if_pos hl])
                  generalize L.length = ll at *
                  clear hl hl0 hsl
                  go_wp2
                  refine bodyPost_ret (v := .tuple #[.agg #[.slice (some ⟨g5, 0, none⟩) 4 gc5], .bool true]) ?_ rfl ⟨_, by rw [HM.out]; rfl, ?_, hw9.setCell (by simp only; omega) _⟩
                  · simp [results, Tryd.results24, go_sem, hr9]
                  · rw [HM.out]
                    have hv9 := HV9.out
                    rw [hla] at hv9
                    refine RwV.keep (P' := fun k => k < w.heap.size) hv9 (by simp) (fun k _ k2 => ⟨Below.heap_setCell W9 ⟨w.heap.size + 1 + 1, 0, none⟩ _ k (fun e => k2 (by simp only at e; omega)), fun h => k2 (by omega)⟩)
                · have hsl : slim L = [] := by rw [HSL.out, if_neg hl]
                  rw [hsl] at hc9
                  have HM := Lib.hid (show R = none by rw [← HMB.out, HME.out, if_neg hl])
                  have hwW : Below w.heap.size w (W9.setCell ⟨w.heap.size + 1 + 1, 0, none⟩ (.slice none 0 0)) := hw9.setCell (by simp only; omega) _
                  clear hl hsl HV9
                  go_wp2
                  refine bodyPost_ret (v := .tuple #[.agg #[.slice none 0 0], .bool false]) ?_ rfl ⟨_, by rw [HM.out]; rfl, ?_, hwW⟩
                  · simp [results, Tryd.results24, go_sem, hr9]
                  · rw [HM.out]; exact RwV.high (GRw.nil _ hwW.size).rws (fun _ h => h)
        · have HM := Lib.hid (show R = some a by rw [← HMB.out]; unfold mergeB; rw [HW1.out, HW2.out]; rfl)
          clear cp4
          go_wp2_with fail
          refine (ownBox_any a _ w4 (HS.out.below hw4) hAN HLA.out).mono ?_
          rintro e w5 ⟨z5, rfl, ho5, hb5⟩
          have hw5 := hw4.trans (hb5.mono hw4.size)
          have hz5 := hb5.size
          obtain ⟨za5, zc5, rfl, -, -⟩ := ho5.form
          rw [hla] at ho5 ⊢
          have hr5 := (hb5.cell (p := ⟨w.heap.size + 1 + 1, 0, none⟩) (by simp only; omega)).trans cr4
          have hn5 := (hb5.frozen (p := ⟨w.heap.size + 1 + 1, 0, none⟩) (by simp only; omega)).trans cn4
          have HO5 := Lib.hid ho5
          clear ho5 hb5 cr4 cn4
          go_wp2
          refine bodyPost_ret (v := .tuple #[.agg #[.slice za5 4 zc5], .bool true]) ?_ rfl ⟨_, by rw [HM.out]; rfl, ?_, hw5.setCell (by simp only; omega) _⟩
          · simp [results, Tryd.results24, go_sem, hr5]
          · rw [HM.out]
            have h1 := OwnG.keepSet (u := .slice za5 4 zc5) (p := ⟨w.heap.size + 1 + 1, 0, none⟩) PSp.kind HO5.out (by simp only; omega)
            exact RwV.high (GRw.rws h1) (fun _ h => Nat.lt_of_lt_of_le h hw4.size)
      · have HM := Lib.hid (show R = some b by rw [← HMB.out]; unfold mergeB; rw [HW1.out]; rfl)
        clear cq3
        go_wp2_with fail
        refine (ownBox_any b _ w3 (HU.out.below hw3) hBN HLB.out).mono ?_
        rintro e w5 ⟨z5, rfl, ho5, hb5⟩
        have hw5 := hw3.trans (hb5.mono hw3.size)
        have hz5 := hb5.size
        obtain ⟨za5, zc5, rfl, -, -⟩ := ho5.form
        rw [hlb] at ho5 ⊢
        have hr5 := (hb5.cell (p := ⟨w.heap.size + 1 + 1, 0, none⟩) (by simp only; omega)).trans cr3
        have hn5 := (hb5.frozen (p := ⟨w.heap.size + 1 + 1, 0, none⟩) (by simp only; omega)).trans cn3
        have HO5 := Lib.hid ho5
        clear ho5 hb5 cr3 cn3
        go_wp2
        refine bodyPost_ret (v := .tuple #[.agg #[.slice za5 4 zc5], .bool true]) ?_ rfl ⟨_, by rw [HM.out]; rfl, ?_, hw5.setCell (by simp only; omega) _⟩
        · simp [results, Tryd.results24, go_sem, hr5]
        · rw [HM.out]
          have h1 := OwnG.keepSet (u := .slice za5 4 zc5) (p := ⟨w.heap.size + 1 + 1, 0, none⟩) PSp.kind HO5.out (by simp only; omega)
          exact RwV.high (GRw.rws h1) (fun _ h => Nat.lt_of_lt_of_le h hw3.size)
theorem specMB_e {lo lo' : Nat} {a b : Bx} {R : Option Bx} {u v : Value} {w : World} (hs : Rws lo w u a) (hu : Rws lo' w v b) (h : mergeV a b = R) :
    Calls Tryd.prog 24 #[.agg #[u], .agg #[v]] w fun e w' => ∃ z, e = .returned (.tuple #[.agg #[z], .bool R.isSome]) ∧ Rws 0 w' z (R.getD []) ∧ Below w.heap.size w w' := by
  refine (specMB_v hs hu h).mono ?_
  rintro e w' ⟨z, rfl, h1, h2⟩
  exact ⟨z, rfl, h1.rws, h2⟩
end Go.Proofs.YtajcogpfmpehkaaDoor
