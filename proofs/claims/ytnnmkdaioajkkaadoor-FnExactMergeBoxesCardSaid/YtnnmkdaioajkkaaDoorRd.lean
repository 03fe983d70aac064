/- The reader of drawn codes: pick and odd. -/
import Derived.Test.YtnnmkdaioajkkaaDoorProg
import Derived.Test.YtnnmkdaioajkkaaDoorBase
import Derived.Test.YtnnmkdaioajkkaaDoorOwn
namespace Go.Proofs.YtnnmkdaioajkkaaDoor
open Go.RowKit
/-- Below block number B only block R may have turned. -/
structure Mv (R B : Nat) (w w' : World) : Prop where
  os : w'.os = w.os
  tape : w'.tape = w.tape
  output : w'.output = w.output
  size : w.heap.size ≤ w'.heap.size
  block : ∀ k, k < B → k ≠ R → w'.heap[k]? = w.heap[k]?
theorem Mv.refl (R B : Nat) (w : World) : Mv R B w w := ⟨rfl, rfl, rfl, Nat.le_refl _, fun _ _ _ => rfl⟩
theorem Mv.trans {R B : Nat} {a b c : World} (h : Mv R B a b) (k : Mv R B b c) : Mv R B a c :=
  ⟨k.os.trans h.os, k.tape.trans h.tape, k.output.trans h.output, Nat.le_trans h.size k.size, fun i hi hne => (k.block i hi hne).trans (h.block i hi hne)⟩
theorem Mv.mono {R B B' : Nat} {w w' : World} (h : Mv R B w w') (hB : B' ≤ B) : Mv R B' w w' := ⟨h.os, h.tape, h.output, h.size, fun k hk hne => h.block k (by omega) hne⟩
theorem Mv.of_below {R B : Nat} {w w' : World} (h : Below B w w') : Mv R B w w' := ⟨h.os, h.tape, h.output, h.size, fun k hk _ => h.block k hk⟩
theorem Mv.below {R B C : Nat} {w w' : World} (h : Mv R B w w') (hB : C ≤ B) (hR : C ≤ R) : Below C w w' := ⟨h.os, h.tape, h.output, h.size, fun k hk => h.block k (by omega) (by omega)⟩
theorem Mv.alloc {R B : Nat} {a w : World} (h : Mv R B a w) (hB : B ≤ w.heap.size) (o : Obj) : Mv R B a (w.alloc o) := h.trans (Mv.of_below ((Below.refl _ _).alloc hB o))
theorem Mv.setCell {R B : Nat} {a w : World} (h : Mv R B a w) {p : Addr} (hp : B ≤ p.block) (u : Value) : Mv R B a (w.setCell p u) := h.trans (Mv.of_below ((Below.refl _ _).setCell hp u))
theorem Mv.drewN {R B : Nat} {w w' : World} (h : Mv R B w w') : ∀ n, Mv R B w (w'.drewN n)
  | 0 => h
  | _ + 1 => ⟨h.os, h.tape, h.output, h.size, h.block⟩
theorem Mv.drew {R B : Nat} {w w' : World} (h : Mv R B w w') : Mv R B w w'.drew := ⟨h.os, h.tape, h.output, h.size, h.block⟩
theorem Mv.set (R B : Nat) (w : World) (o : Nat) (v : Value) : Mv R B w (w.setCell ⟨R, o, none⟩ v) := ⟨rfl, rfl, rfl, by simp [World.setCell], fun k _ hne => Below.heap_setCell _ _ _ _ hne⟩
theorem mvC {R B : Nat} {w w' : World} (h : Mv R B w w') (b : Nat) (hb : b < B) (hne : b ≠ R) : ∀ o, w'.cell? ⟨b, o, none⟩ = w.cell? ⟨b, o, none⟩ := fun o => World.cell?_of_block (a := ⟨b, o, none⟩) (h.block b hb hne)
theorem mvF {R B : Nat} {w w' : World} (h : Mv R B w w') (b : Nat) (hb : b < B) (hne : b ≠ R) : ∀ o, w'.frozen? ⟨b, o, none⟩ = w.frozen? ⟨b, o, none⟩ := fun o => World.frozen?_of_block (a := ⟨b, o, none⟩) (h.block b hb hne)
theorem mvNew {R B : Nat} {w w' : World} {o : Obj} (h : Mv R B (w.alloc o) w') (hb : w.heap.size < B) (hne : R < w.heap.size) : ∀ j, w'.cell? ⟨w.heap.size, j, none⟩ = (w.alloc o).cell? ⟨w.heap.size, j, none⟩ := mvC h _ hb (by omega)
/-- The code: its letters lie in a block before R. -/
def Cd (R : Nat) (w : World) (sv : Value) (bs : List Int) : Prop :=
  ∃ a cap, sv = .slice a bs.length cap ∧ bs.length ≤ 2000 ∧ bs.length ≤ cap ∧ cap ≤ maxLen ∧ ∀ (k : Nat) x, bs[k]? = some x → 0 ≤ x ∧ x ≤ 255 ∧ ∃ b o, a = some ⟨b, o, none⟩ ∧ b < R ∧ w.cell? ⟨b, o + k, none⟩ = some (.int .u8 x)
/-- The reader at place p of the code. -/
structure RdAt (R : Nat) (bs : List Int) (w : World) (p : Nat) : Prop where
  lt : R < w.heap.size
  code : ∃ sv, w.cell? ⟨R, 0, none⟩ = some sv ∧ Cd R w sv bs
  place : w.cell? ⟨R, 1, none⟩ = some (.int .i64 p)
  frz : ∀ j, w.frozen? ⟨R, j, none⟩ = false
theorem RdAt.up {R : Nat} {bs : List Int} {w w' : World} {p : Nat} (h : RdAt R bs w p) (hb : Below (R + 1) w w') : RdAt R bs w' p := by
  obtain ⟨h1, ⟨sv, h2, a, cap, e, l1, l2, l3, hx⟩, h3, h4⟩ := h
  have hc : ∀ b o, b < R + 1 → w'.cell? ⟨b, o, none⟩ = w.cell? ⟨b, o, none⟩ := fun b o hb' => hb.cell (p := ⟨b, o, none⟩) hb'
  refine ⟨Nat.lt_of_lt_of_le h1 hb.size, ⟨sv, (hc R 0 (by omega)).trans h2, a, cap, e, l1, l2, l3, fun k x hk => ?_⟩, (hc R 1 (by omega)).trans h3, fun j => (hb.frozen (p := ⟨R, j, none⟩) (by simp)).trans (h4 j)⟩
  obtain ⟨g1, g2, b, o, g3, g4, g5⟩ := hx k x hk
  exact ⟨g1, g2, b, o, g3, g4, (hc b (o + k) (by omega)).trans g5⟩
/-- The reader is left alone by what turns nothing. -/
theorem RdAt.below {R : Nat} {bs : List Int} {w w' : World} {p : Nat} (h : RdAt R bs w p) (hb : Below w.heap.size w w') : RdAt R bs w' p := by
  obtain ⟨h1, ⟨sv, h2, a, cap, e, l1, l2, l3, hx⟩, h3, h4⟩ := h
  refine ⟨Nat.lt_of_lt_of_le h1 hb.size, ⟨sv, (hb.cell h1).trans h2, a, cap, e, l1, l2, l3, fun k x hk => ?_⟩, (hb.cell h1).trans h3, fun j => (hb.frozen h1).trans (h4 j)⟩
  obtain ⟨g1, g2, b, o, g3, g4, g5⟩ := hx k x hk
  exact ⟨g1, g2, b, o, g3, g4, (hb.cell (p := ⟨b, o + k, none⟩) (Nat.lt_trans g4 h1)).trans g5⟩
theorem RdAt.step {R : Nat} {bs : List Int} {w : World} {p : Nat} (h : RdAt R bs w p) : RdAt R bs (w.setCell ⟨R, 1, none⟩ (.int .i64 ((p : Int) + 1))) (p + 1) := by
  obtain ⟨h1, ⟨sv, h2, a, cap, e, l1, l2, l3, hx⟩, h3, h4⟩ := h
  refine ⟨by simpa [World.setCell] using h1, ⟨sv, ?_, a, cap, e, l1, l2, l3, fun k x hk => ?_⟩, ?_, fun j => ?_⟩
  · rw [World.cell?_setCell_other _ _ _ _ (by simp)]; exact h2
  · obtain ⟨g1, g2, b, o, g3, g4, g5⟩ := hx k x hk
    refine ⟨g1, g2, b, o, g3, g4, ?_⟩
    rw [World.cell?_setCell_other _ _ _ _ (by intro e; simp at e; try omega)]; exact g5
  · rw [World.cell?_setCell_same' _ _ _ (by rw [h3]; rfl)]; simp
  · simpa using h4 j
def Picked (R : Nat) (bs : List Int) (p : Nat) (n : Int) (w : World) (e : Ending) (w' : World) : Prop :=
  ∃ x : Int, e = .returned (.int .i64 x) ∧ 0 ≤ x ∧ (1 ≤ n → x < n) ∧ (n < 1 → x = 0) ∧ RdAt R bs w' (p + 1) ∧ Mv R w.heap.size w w'
theorem RdAt.drewN {R : Nat} {bs : List Int} {w : World} {p : Nat} (h : RdAt R bs w p) (n : Nat) : RdAt R bs (w.drewN n) p := ⟨h.lt, h.code, h.place, h.frz⟩
theorem picked_mk {R : Nat} {bs : List Int} {p : Nat} {n : Int} {w : World} (h : RdAt R bs w p) {x : Int} (h0 : 0 ≤ x) (h1 : 1 ≤ n → x < n) (h2 : n < 1 → x = 0) : Picked R bs p n w (.returned (.int .i64 x)) (w.setCell ⟨R, 1, none⟩ (.int .i64 ((p : Int) + 1))) :=
  ⟨x, rfl, h0, h1, h2, h.step, Mv.set R _ w 1 _⟩
theorem picked_mkN {R : Nat} {bs : List Int} {p : Nat} {n : Int} {w : World} (h : RdAt R bs w p) {x : Int} (h0 : 0 ≤ x) (h1 : 1 ≤ n → x < n) (h2 : n < 1 → x = 0) (m : Nat) : Picked R bs p n w (.returned (.int .i64 x)) ((w.setCell ⟨R, 1, none⟩ (.int .i64 ((p : Int) + 1))).drewN m) :=
  ⟨x, rfl, h0, h1, h2, h.step.drewN m, (Mv.set R _ w 1 _).drewN m⟩
theorem bits_xor_i64_nonneg (a b : Int) (ha : 0 ≤ a) (ha' : a < 9223372036854775808) (hb : 0 ≤ b) (hb' : b < 9223372036854775808) : 0 ≤ bits .xor .i64 a b := by
  obtain ⟨a, rfl⟩ := Int.eq_ofNat_of_zero_le ha
  obtain ⟨b, rfl⟩ := Int.eq_ofNat_of_zero_le hb
  have hx : a ^^^ b < 2 ^ 63 := Nat.xor_lt_two_pow (by omega) (by omega)
  have h1 : (BitVec.ofInt 64 (a : Int)).toNat = a := by
    rw [BitVec.ofInt_natCast, BitVec.toNat_ofNat]; exact Nat.mod_eq_of_lt (by omega)
  have h2 : (BitVec.ofInt 64 (b : Int)).toNat = b := by
    rw [BitVec.ofInt_natCast, BitVec.toNat_ofNat]; exact Nat.mod_eq_of_lt (by omega)
  have e : bits .xor .i64 (a : Int) (b : Int) = IntKind.i64.wrap ((BitVec.ofInt 64 (a : Int) ^^^ BitVec.ofInt 64 (b : Int)).toNat : Int) := rfl
  rw [e, BitVec.toNat_xor, h1, h2, IntKind.wrap_i64]
  omega
set_option maxHeartbeats 1000000 in
theorem pick_small (R : Nat) (bs : List Int) (p : Nat) (n : Int) (w : World) (h : RdAt R bs w p) (hp : p ≤ 1000000) (hn1 : n < 1) :
    Calls Tryd.prog 119 #[.pointer (some ⟨R, 0, none⟩), .int .i64 n] w (Picked R bs p n w) := by
  obtain ⟨h1, ⟨sv, h2, a, cap, rfl, l1, l2, l3, hx⟩, h3, h4⟩ := id h
  unfold maxLen at l3
  clear hx
  go_enter Tryd.func119, Tryd.ntmps119
  go_wp2
  go_ret
  exact picked_mk h (by omega) (by omega) (by omega)
set_option maxHeartbeats 1000000 in
theorem pick_none (R : Nat) (p : Nat) (n : Int) (w : World) (h : RdAt R [] w p) (hp : p ≤ 1000000) (hn1 : 1 ≤ n) :
    Calls Tryd.prog 119 #[.pointer (some ⟨R, 0, none⟩), .int .i64 n] w (Picked R [] p n w) := by
  obtain ⟨h1, ⟨sv, h2, a, cap, rfl, l1, l2, l3, hx⟩, h3, h4⟩ := id h
  unfold maxLen at l3
  clear hx
  go_enter Tryd.func119, Tryd.ntmps119
  go_wp2
  go_ret
  exact picked_mk h (by omega) (by omega) (by omega)
set_option maxHeartbeats 1000000 in
theorem pick_in (R : Nat) (bs : List Int) (p : Nat) (n : Int) (w : World) (h : RdAt R bs w p) (hp : p < bs.length) (hn1 : 1 ≤ n) (hn : n ≤ 1000000000) :
    Calls Tryd.prog 119 #[.pointer (some ⟨R, 0, none⟩), .int .i64 n] w (Picked R bs p n w) := by
  obtain ⟨h1, ⟨sv, h2, a, cap, rfl, l1, l2, l3, hx⟩, h3, h4⟩ := id h
  unfold maxLen at l3
  obtain ⟨x, hxp⟩ : ∃ x, bs[p]? = some x := ⟨_, List.getElem?_eq_getElem hp⟩
  obtain ⟨g1, g2, b, o, rfl, g4, g5⟩ := hx p x hxp
  have hne : b ≠ R := by omega
  have hl0 : ((bs.length : Int) == 0) = false := by simpa using (by omega : bs.length ≠ 0)
  clear hx hxp
  go_enter Tryd.func119, Tryd.ntmps119
  go_wp2
  go_ret
  exact picked_mk h (Int.emod_nonneg _ (by omega)) (fun _ => Int.emod_lt_of_pos _ (by omega)) (by omega)
set_option maxHeartbeats 2000000 in
theorem pick_out (R : Nat) (bs : List Int) (p : Nat) (n : Int) (w : World) (h : RdAt R bs w p) (h0 : 0 < bs.length) (hp : bs.length ≤ p) (hp2 : p ≤ 1000000) (hn1 : 1 ≤ n) (hn : n ≤ 1000000000) :
    Calls Tryd.prog 119 #[.pointer (some ⟨R, 0, none⟩), .int .i64 n] w (Picked R bs p n w) := by
  obtain ⟨h1, ⟨sv, h2, a, cap, rfl, l1, l2, l3, hx⟩, h3, h4⟩ := id h
  unfold maxLen at l3
  obtain ⟨q1, hq1⟩ : ∃ q, p % bs.length = q := ⟨_, rfl⟩
  obtain ⟨q2, hq2⟩ : ∃ q, (p * 7 + 3) % bs.length = q := ⟨_, rfl⟩
  have hl1 : q1 < bs.length := by rw [← hq1]; exact Nat.mod_lt _ h0
  have hl2 : q2 < bs.length := by rw [← hq2]; exact Nat.mod_lt _ h0
  obtain ⟨x, hxp⟩ : ∃ x, bs[q1]? = some x := ⟨_, List.getElem?_eq_getElem hl1⟩
  obtain ⟨y, hyp⟩ : ∃ x, bs[q2]? = some x := ⟨_, List.getElem?_eq_getElem hl2⟩
  obtain ⟨g1, g2, b, o, rfl, g4, g5⟩ := hx q1 x hxp
  obtain ⟨j1, j2, b', o', e', j4, j5⟩ := hx q2 y hyp
  obtain ⟨rfl, rfl, _⟩ := Addr.mk.inj (Option.some.inj e')
  have hne : b ≠ R := by omega
  have hl0 : ((bs.length : Int) == 0) = false := by simpa using (by omega : bs.length ≠ 0)
  rw [← hq1] at g5
  rw [← hq2] at j5
  have i1 : (0 : Int) ≤ (p : Int) % (bs.length : Int) := Int.emod_nonneg _ (by omega)
  have i2 : (p : Int) % (bs.length : Int) < (bs.length : Int) := Int.emod_lt_of_pos _ (by omega)
  have i3 : (0 : Int) ≤ ((p : Int) * 7 + 3) % (bs.length : Int) := Int.emod_nonneg _ (by omega)
  have i4 : ((p : Int) * 7 + 3) % (bs.length : Int) < (bs.length : Int) := Int.emod_lt_of_pos _ (by omega)
  have i5 : (0 : Int) ≤ (p : Int) / (bs.length : Int) := Int.ediv_nonneg (by omega) (by omega)
  have i6 : (p : Int) / (bs.length : Int) ≤ (p : Int) := Int.ediv_le_self _ (by omega)
  clear hx hxp hyp e' hq1 hq2 hl1 hl2
  go_enter Tryd.func119, Tryd.ntmps119
  go_wp2_with fail
  go_quiet (fail)
  go_wp2
  go_ret
  have hz : 0 ≤ bits BinOp.xor IntKind.i64 (x * 131 + y * 1117 + ↑p * 29 + ↑p / ↑bs.length * 53) ((x * 131 + y * 1117 + ↑p * 29 + ↑p / ↑bs.length * 53) / 64) := by
    generalize hq : (p : Int) / (bs.length : Int) = q at *
    exact bits_xor_i64_nonneg _ _ (by omega) (by omega) (by omega) (by omega)
  rw [Int.tmod_eq_emod_of_nonneg hz]
  exact picked_mkN h (Int.emod_nonneg _ (by omega)) (fun _ => Int.emod_lt_of_pos _ (by omega)) (by omega) _
theorem pick_any (R : Nat) (bs : List Int) (p : Nat) (n : Int) (w : World) (h : RdAt R bs w p) (hp : p ≤ 1000000) (hn : n ≤ 1000000000) :
    Calls Tryd.prog 119 #[.pointer (some ⟨R, 0, none⟩), .int .i64 n] w (Picked R bs p n w) := by
  by_cases hn1 : n < 1
  · exact pick_small R bs p n w h hp hn1
  · by_cases h0 : bs = []
    · subst h0
      exact pick_none R p n w h hp (by omega)
    · have h0' : 0 < bs.length := List.length_pos_iff.2 h0
      by_cases hpl : p < bs.length
      · exact pick_in R bs p n w h hpl (by omega) hn
      · exact pick_out R bs p n w h h0' (by omega) hp (by omega) hn
def Odded (R : Nat) (bs : List Int) (p : Nat) (w : World) (e : Ending) (w' : World) : Prop :=
  ∃ (b : Bool) (q : Nat), e = .returned (.bool b) ∧ RdAt R bs w' q ∧ q ≤ p + 1 ∧ Mv R w.heap.size w w'
set_option maxHeartbeats 1000000 in
theorem odd_any (R : Nat) (bs : List Int) (p : Nat) (n : Int) (w : World) (h : RdAt R bs w p) (hp : p ≤ 1000000) (hn : n ≤ 1000000000) (hn' : -1000000000 ≤ n) :
    Calls Tryd.prog 153 #[.pointer (some ⟨R, 0, none⟩), .int .i64 n] w (Odded R bs p w) := by
  by_cases hn0 : 0 < n
  · go_enter Tryd.func153, Tryd.ntmps153
    go_wp2_with (go_at_call 119; refine (pick_any R bs p n w h hp hn).mono ?_; rintro e w1 ⟨x, rfl, hx0, hx1, hx2, hr, hm⟩)
    go_ret
    exact ⟨_, _, rfl, hr, Nat.le_refl _, hm⟩
  · go_enter Tryd.func153, Tryd.ntmps153
    go_wp2
    go_ret
    exact ⟨_, _, rfl, h, by omega, Mv.refl _ _ _⟩
/-- The letters of a code that comes in. -/
def CodeAt (w : World) (v : Value) (bs : List Int) : Prop := SlAt 1 (fun n : Int => [.int .u8 n]) w v bs ∧ ∀ n ∈ bs, 0 ≤ n ∧ n ≤ 255
theorem frz_new (w : World) (cs : Array Value) (ty : TypeId) (j : Nat) : (w.alloc (.cells cs ty)).frozen? ⟨w.heap.size, j, none⟩ = false := by
  have h : (w.alloc (.cells cs ty)).heap[w.heap.size]? = some (.cells cs ty (0, 0)) := heap_alloc_new w _
  simp only [World.frozen?, h]
  simp
def Opened (w : World) (e : Ending) (w' : World) : Prop := ∃ R bs, e = .returned (.pointer (some ⟨R, 0, none⟩)) ∧ w.heap.size ≤ R ∧ RdAt R bs w' 0 ∧ Below w.heap.size w w'
theorem opened_mk {w : World} {a : Option Addr} {cap : Nat} {bs : List Int} {ty : TypeId} (l0 : bs.length ≤ 2000) (l1 : bs.length ≤ cap) (l2 : cap ≤ maxLen)
    (hx : ∀ (k : Nat) x, bs[k]? = some x → 0 ≤ x ∧ x ≤ 255 ∧ ∃ b o, a = some ⟨b, o, none⟩ ∧ b < w.heap.size ∧ w.cell? ⟨b, o + k, none⟩ = some (.int .u8 x)) :
    Opened w (.returned (.pointer (some ⟨w.heap.size, 0, none⟩))) (w.alloc (.cells #[.slice a bs.length cap, .int .i64 0] ty)) := by
  refine ⟨w.heap.size, bs, rfl, Nat.le_refl _, ⟨by simp, ⟨.slice a bs.length cap, by simp, a, cap, rfl, l0, l1, l2, fun k x hk => ?_⟩, by simp, fun j => ?_⟩, (Below.refl _ _).alloc (Nat.le_refl _) _⟩
  · obtain ⟨h1, h2, b, o, h3, h4, h5⟩ := hx k x hk
    refine ⟨h1, h2, b, o, h3, h4, ?_⟩
    rw [World.cell?_alloc_lt _ _ _ h4]; exact h5
  · exact frz_new w _ _ j
theorem code_cells {w : World} {v : Value} {bs : List Int} (h : CodeAt w v bs) : ∃ a cap, v = .slice a bs.length cap ∧ bs.length ≤ cap ∧ cap ≤ maxLen ∧ ∀ (k : Nat) x, bs[k]? = some x → 0 ≤ x ∧ x ≤ 255 ∧ ∃ b o, a = some ⟨b, o, none⟩ ∧ b < w.heap.size ∧ w.cell? ⟨b, o + k, none⟩ = some (.int .u8 x) := by
  obtain ⟨⟨a, cap, e, l1, l2, hx⟩, hb⟩ := h
  refine ⟨a, cap, e, l1, l2, fun k x hk => ?_⟩
  obtain ⟨b, o, h3, h4, h5⟩ := hx k x hk
  have := hb x (List.mem_of_getElem? hk)
  exact ⟨this.1, this.2, b, o, h3, h4, by simpa using h5 0 _ rfl⟩
set_option maxHeartbeats 1000000 in
theorem open_any (bs : List Int) (v : Value) (w : World) (h : CodeAt w v bs) : Calls Tryd.prog 105 #[v] w (Opened w) := by
  obtain ⟨a, cap, rfl, l1, l2, hx⟩ := code_cells h
  have l2' := l2
  unfold maxLen at l2
  have HX := Lib.hid hx; clear hx h
  by_cases hl : 2000 < bs.length
  · go_enter Tryd.func105, Tryd.ntmps105
    go_wp2
    go_ret
    have ht : (bs.take 2000).length = 2000 := by rw [List.length_take]; omega
    have := opened_mk (w := w) (a := a) (cap := cap) (bs := bs.take 2000) (ty := 161) (by omega) (by omega) l2' (fun k x hk => HX.out k x (by
      have hk2 : k < 2000 := by have := (List.getElem?_eq_some_iff.1 hk).1; omega
      rwa [List.getElem?_take_of_lt hk2] at hk))
    rw [ht] at this
    exact this
  · go_enter Tryd.func105, Tryd.ntmps105
    go_wp2
    go_ret
    exact opened_mk (by omega) l1 l2' HX.out
end Go.Proofs.YtnnmkdaioajkkaaDoor
