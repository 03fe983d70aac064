/- Shared lists of the call's own; tests of packets and the reference's TestsBox. -/
import Derived.Test.YtfcbbahlhjdefaaDoorFnX
import Derived.Test.YtfcbbahlhjdefaaDoorBsA
import Derived.Test.YtfcbbahlhjdefaaDoorRgX
import Derived.Test.YtfcbbahlhjdefaaDoorFmZ
import Derived.Test.YtfcbbahlhjdefaaDoorCuW
namespace Go.Proofs.YtfcbbahlhjdefaaDoor
open Go.RowKit
/-- What is read from lo on is read the same. -/
structure Sb (lo : Nat) (w w' : World) : Prop where
  size : w.heap.size ≤ w'.heap.size
  cell : ∀ p c, lo ≤ p.block → w.cell? p = some c → w'.cell? p = some c
theorem Sb.of {lo : Nat} {w w' : World} (hz : w.heap.size ≤ w'.heap.size) (h : ∀ k, lo ≤ k → k < w.heap.size → w'.heap[k]? = w.heap[k]?) : Sb lo w w' :=
  ⟨hz, fun p _c hp hc => (World.cell?_of_block (h p.block hp (World.block_lt_of_cell? _ _ hc))).trans hc⟩
theorem SlFr.sub {α : Type} {lo sz : Nat} {enc : α → List Value} {w w' : World} {v : Value} {xs : List α} (h : SlFr lo sz enc w v xs) (hw : Sb lo w w') : SlFr lo sz enc w' v xs := by
  obtain ⟨a, cap, h1, h2, h3, hx⟩ := h
  refine ⟨a, cap, h1, h2, h3, fun k x hk => ?_⟩
  obtain ⟨b, o, e, hb, h, c⟩ := hx k x hk
  exact ⟨b, o, e, hb, Nat.lt_of_lt_of_le h hw.size, fun j u hj => hw.cell _ _ hb (c j u hj)⟩
/-- A test of a packet. -/
structure Te where
  fld : Int
  lo : Int
  hi : Int
  not : Bool
abbrev Te.enc (t : Te) : List Value := [.int .i64 t.fld, .int .i64 t.lo, .int .i64 t.hi, .bool t.not]
def tvalid1 (f lo hi : Int) : Bool := inB f 0 3 && inB lo 0 hi && decide (hi ≤ top f.toNat)
set_option maxHeartbeats 1000000 in
theorem specTV_b {f lo hi : Int} {n r : Bool} (h : tvalid1 f lo hi = r) (w : World) :
    Calls Tryd.prog 44 #[.agg #[.int .i64 f, .int .i64 lo, .int .i64 hi, .bool n]] w fun e w' => e = .returned (.bool r) ∧ Below w.heap.size w w' := by
  subst h
  have hal : Below w.heap.size w (w.alloc (.cells #[.int .i64 f, .int .i64 lo, .int .i64 hi, .bool n] 108)) := (Below.refl _ _).alloc (Nat.le_refl _) _
  cases h1 : inB f 0 3
  · go_enter Tryd.func44, Tryd.ntmps44
    go_wp2_with fail
    refine wp_region_over (by kernel_rfl) (by kernel_rfl) (fun ov => ?_); have ov0 := fun x => ov x (w.heap.size) (by (try simp) <;> omega); clear ov; (iterate 9 (iterate 8 (try go_big_quiet_step (first | (go_at_call 21; with_reducible exact callsOverSame (l1In_b h1 _)))))); refine wpQuiet_nil ?_; intro w9 hw9; have hb_w9 := below_over hw9; clear hw9 ov0
    have hw9 := hal.trans (hb_w9.mono hal.size)
    go_wp2
    go_ret
    exact ⟨ret_bool (by simp [tvalid1, h1]), hw9⟩
  · obtain ⟨g0, g1⟩ := inB_iff.1 h1
    obtain ⟨k, rfl⟩ : ∃ k : Nat, f = k := ⟨f.toNat, by omega⟩
    cases h2 : inB lo 0 hi
    · go_enter Tryd.func44, Tryd.ntmps44
      go_wp2_with fail
      refine wp_region_over (by kernel_rfl) (by kernel_rfl) (fun ov => ?_); have ov0 := fun x => ov x (w.heap.size) (by (try simp) <;> omega); clear ov; (iterate 9 (iterate 8 (try go_big_quiet_step (first | (go_at_call 21; with_reducible exact callsOverSame (l1In_b h1 _)) | (go_at_call 21; with_reducible exact callsOverSame (l1In_b h2 _)))))); refine wpQuiet_nil ?_; intro w9 hw9; have hb_w9 := below_over hw9; clear hw9 ov0
      have hw9 := hal.trans (hb_w9.mono hal.size)
      go_wp2
      go_ret
      exact ⟨ret_bool (by simp [tvalid1, h1, h2]), hw9⟩
    · go_enter Tryd.func44, Tryd.ntmps44
      go_wp2_with fail
      refine wp_region_over (by kernel_rfl) (by kernel_rfl) (fun ov => ?_); have ov0 := fun x => ov x (w.heap.size) (by (try simp) <;> omega); clear ov; (iterate 9 (iterate 8 (try go_big_quiet_step (first | (go_at_call 21; with_reducible exact callsOverSame (l1In_b h1 _)) | (go_at_call 21; with_reducible exact callsOverSame (l1In_b h2 _)) | (go_at_call 45; with_reducible exact callsOverSame (specFTop_any k (by omega) _)))))); refine wpQuiet_nil ?_; intro w9 hw9; have hb_w9 := below_over hw9; clear hw9 ov0
      have hw9 := hal.trans (hb_w9.mono hal.size)
      go_wp2
      go_ret
      exact ⟨ret_bool (by simp [tvalid1, h1, h2]), hw9⟩
def Te.ok (t : Te) : Bool := tvalid1 t.fld t.lo t.hi
def Tes (w : World) (v : Value) (ts : List Te) : Prop := SlAt 4 Te.enc w v ts
theorem Tes.at {w : World} {a : Option Addr} {n cap : Nat} {ts : List Te} (h : Tes w (.slice a n cap) ts) {k : Nat} (hk : k < ts.length) :
    ∃ b o f lo hi q, a = some ⟨b, o, none⟩ ∧ b < w.heap.size ∧ ts[k]? = some ⟨f, lo, hi, q⟩ ∧ w.cell? ⟨b, o + k * 4, none⟩ = some (.int .i64 f) ∧ w.cell? ⟨b, o + k * 4 + 1, none⟩ = some (.int .i64 lo) ∧
      w.cell? ⟨b, o + k * 4 + 2, none⟩ = some (.int .i64 hi) ∧ w.cell? ⟨b, o + k * 4 + 3, none⟩ = some (.bool q) := by
  obtain ⟨a', cap', he, _, _, hx⟩ := h
  obtain ⟨rfl, _, _⟩ := Value.slice.inj he
  obtain ⟨b, o, ha, hb, hc⟩ := hx k ts[k] (List.getElem?_eq_getElem hk)
  exact ⟨b, o, _, _, _, _, ha, hb, List.getElem?_eq_getElem hk, hc 0 _ rfl, hc 1 _ rfl, hc 2 _ rfl, hc 3 _ rfl⟩
theorem sother_len1 (t at' : Int) (x : Sp) : (sother t at' [x]).length ≤ 2 := by
  unfold sother
  unfold sother
  split <;> split <;> simp
theorem tvalid1_iff {f : Nat} {lo hi : Int} (h : tvalid1 f lo hi = true) : 0 ≤ lo ∧ lo ≤ hi ∧ hi ≤ top f := by
  unfold tvalid1 at h
  simp only [Bool.and_eq_true, decide_eq_true_eq, inB_iff, Int.toNat_natCast] at h
  omega
theorem tvalid1_fld {f : Int} {lo hi : Int} (h : tvalid1 f lo hi = true) : ∃ k : Nat, f = k ∧ k < 4 := by
  unfold tvalid1 at h
  simp only [Bool.and_eq_true, inB_iff] at h
  exact ⟨f.toNat, by omega, by omega⟩
theorem litSp1 {base : Nat} {w : World} {lo hi : Int} (h : base ≤ w.heap.size) : OwnSp base (w.alloc (.cells #[.int .i64 lo, .int .i64 hi] 64)) (.slice (some ⟨w.heap.size, 0, none⟩) 1 1) [⟨lo, hi⟩] := by
  exact ⟨by simp, .inr ⟨w.heap.size, 1, #[.int .i64 lo, .int .i64 hi], rfl, h, heap_alloc_new w _, Nat.le_refl _, by simp [maxLen], by simp, by simp⟩⟩
theorem alloc2_cells (w : World) (A B : Array Value) (t1 t2 : Nat) :
    (∀ k, ((w.alloc (.cells A t1)).alloc (.cells B t2)).cell? ⟨w.heap.size, k, none⟩ = A[k]? ∧ ((w.alloc (.cells A t1)).alloc (.cells B t2)).frozen? ⟨w.heap.size, k, none⟩ = false) ∧
    (∀ k, ((w.alloc (.cells A t1)).alloc (.cells B t2)).cell? ⟨w.heap.size + 1, k, none⟩ = B[k]? ∧ ((w.alloc (.cells A t1)).alloc (.cells B t2)).frozen? ⟨w.heap.size + 1, k, none⟩ = false) := by
  refine ⟨fun k => ⟨?_, ?_⟩, fun k => ⟨?_, ?_⟩⟩ <;> go_simp
def ball : Bx := [[⟨0, 65535⟩], [⟨0, 65535⟩], [⟨0, top 2⟩], [⟨0, top 3⟩]]
end Go.Proofs.YtfcbbahlhjdefaaDoor
