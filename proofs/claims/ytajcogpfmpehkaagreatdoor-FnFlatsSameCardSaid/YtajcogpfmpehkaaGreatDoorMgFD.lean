/- The program's merging of neighbours. -/
import Derived.Test.YtajcogpfmpehkaaGreatDoorFtW
import Derived.Test.YtajcogpfmpehkaaGreatDoorRgCL
import Derived.Lib.SliceRun
import Derived.Deep.RegionLaw
import Derived.Test.YtajcogpfmpehkaaGreatDoorMbMf
import Derived.Test.YtajcogpfmpehkaaGreatDoorMbW
namespace Go.Proofs.YtajcogpfmpehkaaGreatDoor
open Go.RowKit
/-- All cells with numbers are kept. -/
def IK (w w' : World) : Prop := w.heap.size ≤ w'.heap.size ∧ ∀ (p : Addr) (n : Int), w.cell? p = some (.int .i64 n) → w'.cell? p = some (.int .i64 n)
theorem IK.refl (w : World) : IK w w := ⟨Nat.le_refl _, fun _ _ h => h⟩
theorem IK.trans {w w1 w2 : World} (h : IK w w1) (g : IK w1 w2) : IK w w2 := ⟨Nat.le_trans h.1 g.1, fun p n e => g.2 p n (h.2 p n e)⟩
theorem IK.below {w w' : World} (h : Below w.heap.size w w') : IK w w' := ⟨h.size, fun p _ e => (h.cell (p := p) (World.block_lt_of_cell? _ _ e)).trans e⟩
theorem Sps.ik {lo : Nat} {w w' : World} {v : Value} {xs : List Sp} (h : Sps lo w v xs) (k : IK w w') : Sps lo w' v xs := Sps.ints h k.1 k.2
theorem R5.ok.ik {lo : Nat} {w w' : World} {r : R5} {f : Ft} (h : R5.ok lo w r f) (k : IK w w') : R5.ok lo w' r f := ⟨h.1.mono (fun _ _ g => g.ik k), h.2⟩
/-- The first m cells of block g are there and are no numbers. -/
def NoI (w : World) (g m : Nat) : Prop := ∀ o, o < m → ∃ u, w.cell? ⟨g, o, none⟩ = some u ∧ ∀ n, u ≠ .int .i64 n
theorem NoI.set {w : World} {g m o : Nat} {v : Value} (h : NoI w g m) (hv : ∀ n, v ≠ .int .i64 n) (ho : o < m) : NoI (w.setCell ⟨g, o, none⟩ v) g m ∧ IK w (w.setCell ⟨g, o, none⟩ v) := by
  obtain ⟨u, hu, hn⟩ := h o ho
  refine ⟨fun j hj => ?_, by simp, fun p n hp => ?_⟩
  · by_cases e : j = o
    · subst e
      exact ⟨v, World.cell?_setCell_same' _ _ _ (by simp [hu]), hv⟩
    · obtain ⟨x, hx, hxn⟩ := h j hj
      exact ⟨x, by rw [World.cell?_setCell_other _ _ _ _ (by first | (simp; done) | (simp; omega))]; exact hx, hxn⟩
  · have hne : p ≠ ⟨g, o, none⟩ := fun e => by rw [e, hu] at hp; exact hn n (Option.some.inj hp)
    rw [World.cell?_setCell_other _ _ _ _ (Ne.symm hne)]
    exact hp
theorem NoI.sets {g m : Nat} : ∀ (vs : List Value) (o : Nat) (w : World), NoI w g m → (∀ v ∈ vs, ∀ n, v ≠ .int .i64 n) → o + vs.length ≤ m → NoI (w.setCells g o vs) g m ∧ IK w (w.setCells g o vs)
  | [], _, w, h, _, _ => ⟨h, IK.refl w⟩
  | v :: vs, o, w, h, hv, hm => by
    rw [List.length_cons] at hm
    obtain ⟨h1, k1⟩ := NoI.set (o := o) h (hv v List.mem_cons_self) (by omega)
    obtain ⟨h2, k2⟩ := NoI.sets vs (o + 1) _ h1 (fun x hx => hv x (List.mem_cons_of_mem _ hx)) (by omega)
    exact ⟨h2, k1.trans k2⟩
def R5.sl (r : R5) : Prop := ∃ a0 n0 p0 a1 n1 p1 a2 n2 p2 a3 n3 p3, r.v0 = .slice a0 n0 p0 ∧ r.v1 = .slice a1 n1 p1 ∧ r.v2 = .slice a2 n2 p2 ∧ r.v3 = .slice a3 n3 p3
theorem R5.ok.sl {lo : Nat} {w : World} {r : R5} {f : Ft} (h : R5.ok lo w r f) : r.sl := by
  obtain ⟨a0, n0, p0, a1, n1, p1, a2, n2, p2, a3, n3, p3, e0, e1, e2, e3⟩ := sl4_form h.1
  exact ⟨a0, n0, p0, a1, n1, p1, a2, n2, p2, a3, n3, p3, e0, e1, e2, e3⟩
theorem r5_vals {xs : List R5} (h : ∀ r ∈ xs, r.sl) : ∀ u ∈ xs.flatMap R5.enc, u.oneCell' = true ∧ ∀ n, u ≠ .int .i64 n := by
  intro u hu
  obtain ⟨r, hr, hu⟩ := List.mem_flatMap.1 hu
  obtain ⟨a0, n0, p0, a1, n1, p1, a2, n2, p2, a3, n3, p3, e0, e1, e2, e3⟩ := h r hr
  simp only [R5.enc, e0, e1, e2, e3, List.mem_cons, List.not_mem_nil, or_false] at hu
  rcases hu with rfl | rfl | rfl | rfl | rfl <;> exact ⟨by simp [Value.oneCell'], fun n e => by cases e⟩
theorem setCells_wSet (g : Nat) : ∀ (vs : List Value) (o : Nat) (w : World), w.setCells g o vs = wSet w g o vs
  | [], _, _ => rfl
  | v :: vs, o, w => by simp only [World.setCells, wSet]; exact setCells_wSet g vs (o + 1) _
theorem setAll_take : ∀ (cs L : List Value) (o m : Nat), m ≤ o → (setAll L o cs).take m = L.take m
  | [], _, _, _, _ => rfl
  | c :: cs, L, o, m, h => by
    simp only [setAll]
    rw [setAll_take cs _ (o + 1) m (by omega), List.take_set_of_le h]
theorem ownsRow_short {base e sz g n m cap : Nat} {w : World} {L : List Value} (h : w.ownsRow base e sz (.slice (some ⟨g, 0, none⟩) n cap) n L) (hm : m ≤ n) : w.ownsRow base e sz (.slice (some ⟨g, 0, none⟩) m cap) m (L.take (m * sz)) := by
  obtain ⟨h1, h2 | ⟨g', cap', cur, he, hb, hh, hn, hc, hs, ht⟩⟩ := h
  · cases h2.1
  · obtain ⟨e1, -, rfl⟩ := Value.slice.inj he
    obtain ⟨rfl, -, -⟩ := Addr.mk.inj (Option.some.inj e1)
    have hle : m * sz ≤ n * sz := Nat.mul_le_mul_right _ hm
    refine ⟨by rw [List.length_take, h1, Nat.min_eq_left hle], .inr ⟨g, cap, cur, rfl, hb, hh, by omega, hc, hs, ?_⟩⟩
    rw [← ht, List.take_take, Nat.min_eq_left hle]
theorem del_cells5 (xs : List R5) (k : Nat) (hk : k < xs.length) (zs : List Value) :
    (setAll (setAll (xs.flatMap R5.enc) (k * 5) ((xs.drop (k + 1)).flatMap R5.enc)) ((xs.length - 1) * 5) zs).take ((xs.length - 1) * 5) = (xs.take k ++ xs.drop (k + 1)).flatMap R5.enc := by
  have hlen : ∀ ys : List R5, (ys.flatMap R5.enc).length = ys.length * 5 := fun ys => length_flatMap (sz := 5) (enc := R5.enc) (fun _ => rfl) ys
  rw [setAll_take _ _ _ _ (Nat.le_refl _)]
  have hA : ((xs.take k).flatMap R5.enc).length = k * 5 := by rw [hlen, List.length_take, Nat.min_eq_left (by omega)]
  have hsplit : xs.flatMap R5.enc = (xs.take k).flatMap R5.enc ++ (xs.drop k).flatMap R5.enc := by rw [← List.flatMap_append, List.take_append_drop]
  have hN : ((xs.drop (k + 1)).flatMap R5.enc).length = (xs.length - (k + 1)) * 5 := by rw [hlen, List.length_drop]
  have hR : ((xs.drop k).flatMap R5.enc).length = (xs.length - k) * 5 := by rw [hlen, List.length_drop]
  rw [hsplit]
  generalize (xs.drop k).flatMap R5.enc = R at *
  rw [show k * 5 = ((xs.take k).flatMap R5.enc).length + 0 by rw [hA]; rfl, setAll_append_right, List.flatMap_append]
  generalize (xs.take k).flatMap R5.enc = A at *
  generalize (xs.drop (k + 1)).flatMap R5.enc = B at *
  rw [← List.take_append_drop B.length R, setAll_head _ _ B (by rw [List.length_take]; omega), ← List.append_assoc, List.take_append_of_le_length (by rw [List.length_append]; omega), List.take_of_length_le (by rw [List.length_append]; omega)]
def zeroF : List Value := [.slice none 0 0, .slice none 0 0, .slice none 0 0, .slice none 0 0, .bool false]
theorem clearFl_one (w : World) (ty : TypeId) (g o n c : Nat) (hn : n = 1) (hc : ∀ j, j < 5 → (w.cell? ⟨g, o + j, none⟩).isSome = true) (hf : ∀ j, w.frozen? ⟨g, j, none⟩ = false) :
    (Builtin.clear_ #[50] ty #[.slice (some ⟨g, o, none⟩) n c]).run Tryz.prog w = .ok (.tuple #[]) (w.setCells g o zeroF) := by
  subst hn
  have hst := run_storeCells_cells (P := Tryz.prog) g o zeroF 0 w (by simpa [zeroF] using hc) (fun j _ => hf _) (by intro v hv; simp [zeroF] at hv; rcases hv with rfl | rfl <;> simp [Value.oneCell'])
  have hz : (Builtin.zeroCells (Value.agg #[.slice none 0 0, .slice none 0 0, .slice none 0 0, .slice none 0 0, .bool false]).cells 1).toList = zeroF := by first | kernel_rfl | simp [zeroF, Builtin.zeroCells, Value.cells, List.range_succ]
  simp only [Nat.add_zero] at hst
  simp [Builtin.clear_, run_underlying Tryz.underlying50, hz, hst]
set_option maxHeartbeats 1000000 in
theorem cloneFl_any (xs : List R5) (lo : Nat) (v : Value) (w : World) (hs : SlFr lo 5 R5.enc w v xs) (hl : xs.length ≤ 1000000) :
    Calls Tryz.prog 83 #[v] w fun e w' => ∃ z, e = .returned z ∧ OwnSl w.heap.size 88 5 R5.enc w' z xs ∧ Below w.heap.size w w' := by
  obtain ⟨a, cap, rfl, hlc, hcm, hx⟩ := id hs
  unfold maxLen at hcm
  have hq := Lib.run_eql_slice_nil (P := Tryz.prog) w 50 88 a xs.length cap 0 0 Tryz.underlying50
  cases a with
  | none =>
    have h0 : xs = [] := by
      cases xs with
      | nil => rfl
      | cons x xs => obtain ⟨b, o, h, _⟩ := hx 0 x rfl; cases h
    subst h0
    clear hx
    simp only [Option.isNone_none, List.length_nil] at hq ⊢
    clear hs hlc hl
    go_enter Tryz.func83, Tryz.ntmps83
    go_wp2
    go_ret
    exact ⟨_, rfl, OwnSl.nil _ _ _ _ _, Below.refl _ _⟩
  | some ad =>
    simp only [Option.isNone_some] at hq
    obtain ⟨i0, hi, hy0, hy1, hy2⟩ := info_parts infoFl
    have hal : Below w.heap.size w (w.alloc (.cells #[] 88)) := (Below.refl _ _).alloc (Nat.le_refl _) _
    obtain ⟨v3, w3, hrun3, hown3, hb3⟩ := run_append_copy (sz := 5) (enc := R5.enc) (by omega) (fun _ => rfl) (P := Tryz.prog) (w := w.alloc (.cells #[] 88)) 50 50 88 i0 _ 104 Tryz.underlying50 hi hy0 hy1 hy2 rfl (base := w.heap.size) ⟨w.heap.size, 0, none⟩ (litOwn 88 5 R5.enc (Nat.le_refl _)) (by simp) (SlFr.at (SlFr.below hs hal)) (by omega)
    have hq3 : Below w.heap.size w w3 := hal.trans (hb3.mono (by simp))
    have HO3 := Lib.hid hown3
    clear hown3 hb3 hal hx
    go_enter Tryz.func83, Tryz.ntmps83
    go_wp2_with (at_builtin; refine wpList_append_run rfl _ _ 50 rfl rfl rfl hrun3 ?_)
    go_ret
    exact ⟨_, rfl, HO3.out, hq3⟩
set_option maxRecDepth 1000000 in
set_option maxHeartbeats 4000000 in
theorem deleteFl_any {base : Nat} (xs : List R5) (g n cap k j : Nat) (w : World) (hn : xs.length = n) (h : OwnSl base 88 5 R5.enc w (.slice (some ⟨g, 0, none⟩) n cap) xs) (hsl : ∀ r ∈ xs, r.sl) (hk : k < n) (hj : j = k + 1) (hbase : base ≤ w.heap.size) :
    Calls Tryz.prog 85 #[.slice (some ⟨g, 0, none⟩) n cap, .int .i64 k, .int .i64 j] w fun e w' => ∃ v', e = .returned v' ∧ OwnSl base 88 5 R5.enc w' v' (xs.take k ++ xs.drop (k + 1)) ∧ Below base w w' ∧ IK w w' := by
  obtain ⟨i0, hi0, hy0, hz1, hy2⟩ := info_parts infoFl
  have t22 := Tryz.underlying50
  have mixed : Tryz.prog.follows Departure.mixedOrders = true := by kernel_rfl
  have hd : OwnSl base 88 5 R5.enc w.drew (.slice (some ⟨g, 0, none⟩) n cap) xs := h
  have hfz : ∀ o, w.drew.frozen? ⟨g, o, none⟩ = false := OwnSl.frz hd
  obtain ⟨hnc, hcm⟩ : n ≤ cap ∧ cap ≤ maxLen := by
    rcases OwnSl.form hd with ⟨h0, _⟩ | ⟨g', cp, h0, _, _, h1, h2, _⟩
    · cases h0
    · obtain ⟨_, _, rfl⟩ := Value.slice.inj h0
      exact ⟨by omega, h2⟩
  unfold maxLen at hcm
  have hvals := r5_vals hsl
  obtain ⟨news, hnews⟩ : ∃ news, news = (xs.drop j).flatMap R5.enc := ⟨_, rfl⟩
  have hnvals : ∀ u ∈ news, u.oneCell' = true ∧ ∀ n, u ≠ .int .i64 n := by rw [hnews]; exact r5_vals (fun r hr => hsl r (List.mem_of_mem_drop hr))
  have hlen : news.length = (n - j) * 5 := by rw [hnews, length_flatMap (sz := 5) (enc := R5.enc) (fun _ => rfl), List.length_drop, hn]
  have hcell : ∀ t u, (xs.flatMap R5.enc)[t]? = some u → w.drew.cell? ⟨g, t, none⟩ = some u := by
    intro t u hu
    have := (SlAt.flat (sz := 5) (enc := R5.enc) (by omega) (fun _ => rfl) (hn ▸ OwnSl.at (sz := 5) (enc := R5.enc) (fun _ => rfl) hd : SlAt 5 R5.enc w.drew (.slice (some ⟨g, 0, none⟩) xs.length cap) xs)) t u hu
    rwa [Addr.add_lit, Nat.zero_add] at this
  have hflat : (xs.flatMap R5.enc).length = n * 5 := by rw [length_flatMap (sz := 5) (enc := R5.enc) (fun _ => rfl), hn]
  have hnoi : NoI w.drew g (n * 5) := fun t ht => by
    have hx : (xs.flatMap R5.enc)[t]? = some ((xs.flatMap R5.enc)[t]'(by omega)) := List.getElem?_eq_getElem (by omega)
    exact ⟨_, hcell t _ hx, (hvals _ (List.mem_of_getElem? hx)).2⟩
  have hthere : ∀ t, t < n * 5 → (w.drew.cell? ⟨g, t, none⟩).isSome = true := fun t ht => by
    rw [hcell t _ (List.getElem?_eq_getElem (by omega))]; rfl
  have hsplit : xs.flatMap R5.enc = (xs.take j).flatMap R5.enc ++ news := by rw [hnews, ← List.flatMap_append, List.take_append_drop]
  have hAl : ((xs.take j).flatMap R5.enc).length = j * 5 := by rw [length_flatMap (sz := 5) (enc := R5.enc) (fun _ => rfl), List.length_take, Nat.min_eq_left (by omega)]
  have hsrc0 : ∀ t u, news[t]? = some u → w.drew.cell? ⟨g, j * 5 + t, none⟩ = some u := fun t u hu => hcell _ _ (by
    rw [hsplit, List.getElem?_append_right (by omega), hAl, show j * 5 + t - j * 5 = t by omega]; exact hu)
  obtain ⟨A, hA, hsrc⟩ : ∃ A : Addr, (if cap = j then some (⟨g, 0, none⟩ : Addr) else some ⟨g, j * 5, none⟩) = some A ∧ Hid (∀ t u, news[t]? = some u → w.drew.cell? (A.add t) = some u) := by
    by_cases h : cap = j
    · refine ⟨⟨g, 0, none⟩, by simp [h], fun t u hu => ?_⟩
      have h0 : news.length = 0 := by rw [hlen]; omega
      rw [List.length_eq_zero_iff.1 h0] at hu
      simp at hu
    · refine ⟨⟨g, j * 5, none⟩, by simp [h], fun t u hu => ?_⟩
      rw [Addr.add_lit]
      exact hsrc0 t u hu
  have s1 : Hid (news.length = (n - j) * 5) := hlen
  have s2 : Hid (∀ u ∈ news, u.oneCell' = true) := fun u hu => (hnvals u hu).1
  have s3 : Hid (∀ t, t < news.length → (w.drew.cell? ⟨g, 0 + k * 5 + t, none⟩).isSome = true ∧ w.drew.frozen? ⟨g, 0 + k * 5 + t, none⟩ = false) := fun t ht => ⟨hthere _ (by rw [hlen] at ht; omega), hfz _⟩
  obtain ⟨W1, hW1⟩ : ∃ W1, W1 = w.drew.setCells g (0 + k * 5) news := ⟨_, rfl⟩
  obtain ⟨hnoi1, hik1⟩ := NoI.sets (m := n * 5) news (0 + k * 5) w.drew hnoi (fun v hv => (hnvals v hv).2) (by rw [hlen]; omega)
  rw [← hW1] at hnoi1 hik1
  have hown1 := owns_wSet news (k * 5) w.drew _ (show w.drew.ownsRow base 88 5 (.slice (some ⟨g, 0, none⟩) n cap) n (xs.flatMap R5.enc) by have := hd; unfold OwnSl at this; rwa [hn] at this)
  rw [← setCells_wSet, show k * 5 = 0 + k * 5 by omega, ← hW1] at hown1
  have hfz1 : ∀ o, W1.frozen? ⟨g, o, none⟩ = false := fun o => World.ownsRow.frozenAt hown1.1 o
  have hm1 : k + (n - j) = n - 1 := by omega
  have hthere1 : ∀ t, t < n * 5 → (W1.cell? ⟨g, t, none⟩).isSome = true := fun t ht => by
    obtain ⟨u, hu, _⟩ := hnoi1 t ht
    rw [hu]; rfl
  have hcl := fun ty => clearFl_one W1 ty g ((k + (n - j)) * 5) (n - (k + (n - j))) (cap - (k + (n - j))) (by omega) (fun t ht => hthere1 _ (by omega)) hfz1
  obtain ⟨-, hik2⟩ := NoI.sets (m := n * 5) zeroF ((k + (n - j)) * 5) W1 hnoi1 (fun v hv n e => by subst e; simp [zeroF] at hv) (by simp [zeroF]; omega)
  have hown2 := owns_wSet zeroF ((k + (n - j)) * 5) W1 _ hown1.1
  rw [← setCells_wSet] at hown2
  have hfin := ownsRow_short (m := k + (n - j)) hown2.1 (by omega)
  simp only [Nat.zero_add] at hfin
  have HFIN : Hid (OwnSl base 88 5 R5.enc (W1.setCells g ((k + (n - j)) * 5) zeroF) (.slice (some ⟨g, 0, none⟩) (k + (n - j)) cap) (xs.take k ++ xs.drop (k + 1))) := by
    unfold OwnSl
    have e1 : (xs.take k ++ xs.drop (k + 1)).length = k + (n - j) := by simp [hn]; omega
    rw [e1, ← del_cells5 xs k (by omega) zeroF, hn, ← hm1, ← hj, ← hnews]
    exact hfin
  have hb1 : Below base w W1 := belGrown (w0 := w.drew) ⟨rfl, rfl, rfl, Nat.le_refl _, fun _ _ => rfl⟩ hd hown1.2 hbase
  have HB := Lib.hid (belGrown hb1 hown1.1 hown2.2 (Nat.le_trans hbase hb1.size))
  have HIK := Lib.hid (show IK w (W1.setCells g ((k + (n - j)) * 5) zeroF) from (show IK w W1 from hik1).trans hik2)
  have hW : Hid (W1 = w.drew.setCells g (0 + k * 5) news) := hW1
  have hkc : k ≤ cap := by omega
  have hkj2 : k ≤ j := by omega
  have hjn : j ≤ n := by omega
  have hjc : j ≤ cap := by omega
  have hkj : (k : Int) ≠ (j : Int) := by omega
  have hmc : cap ≠ k + (n - j) := by omega
  clear hW1 hown1 hown2 hfin hb1 hfz1 hthere1 hsrc0 hAl hsplit hthere hflat hcell hfz hd h hnews hlen hn hj hm1 hy0 hy2 hnoi hnoi1 hik1 hik2 hvals hnvals hsl
  go_enter Tryz.func85, Tryz.ntmps85
  go_wp2_with fail
  go_region_law (refine step_append_room rfl (.tmp 22) (.tmp 25) 50 rfl 88 i0 5 t22 hi0 hz1 g 0 k cap (by simp [Act.eval, Act.put]) A (n - j) (cap - j) news (by simp [Act.eval, Act.put]) s1.out hsrc.out s2.out (by omega) s3.out ?_; rw [← hW.out])
  go_wp2
  go_ret
  exact ⟨_, rfl, HFIN.out, HB.out, HIK.out⟩
theorem noi_of {base : Nat} {w : World} {g n cap : Nat} {xs : List R5} (h : OwnSl base 88 5 R5.enc w (.slice (some ⟨g, 0, none⟩) n cap) xs) (hn : n = xs.length) (hsl : ∀ r ∈ xs, r.sl) : NoI w g (n * 5) := by
  subst hn
  have hflat : (xs.flatMap R5.enc).length = xs.length * 5 := length_flatMap (sz := 5) (enc := R5.enc) (fun _ => rfl) xs
  intro t ht
  have hx : (xs.flatMap R5.enc)[t]? = some ((xs.flatMap R5.enc)[t]'(by omega)) := List.getElem?_eq_getElem (by omega)
  have := (SlAt.flat (sz := 5) (enc := R5.enc) (by omega) (fun _ => rfl) (OwnSl.at (sz := 5) (enc := R5.enc) (fun _ => rfl) h)) t _ hx
  rw [Addr.add_lit, Nat.zero_add] at this
  exact ⟨_, this, (r5_vals hsl _ (List.mem_of_getElem? hx)).2⟩
/-- The sets of one rule are stored anew. -/
theorem store4 {base : Nat} {w : World} {g n cap k : Nat} {xs : List R5} {r : R5} (h : OwnSl base 88 5 R5.enc w (.slice (some ⟨g, 0, none⟩) n cap) xs) (hn : n = xs.length) (hk : xs[k]? = some r) (hsl : ∀ r ∈ xs, r.sl) (a0 a1 a2 a3 : Option Addr) (n0 p0 n1 p1 n2 p2 n3 p3 : Nat) :
    OwnSl base 88 5 R5.enc ((((w.setCell ⟨g, k * 5, none⟩ (.slice a0 n0 p0)).setCell ⟨g, k * 5 + 1, none⟩ (.slice a1 n1 p1)).setCell ⟨g, k * 5 + 2, none⟩ (.slice a2 n2 p2)).setCell ⟨g, k * 5 + 3, none⟩ (.slice a3 n3 p3)) (.slice (some ⟨g, 0, none⟩) n cap) (xs.set k ⟨.slice a0 n0 p0, .slice a1 n1 p1, .slice a2 n2 p2, .slice a3 n3 p3, r.acc⟩) ∧
    IK w ((((w.setCell ⟨g, k * 5, none⟩ (.slice a0 n0 p0)).setCell ⟨g, k * 5 + 1, none⟩ (.slice a1 n1 p1)).setCell ⟨g, k * 5 + 2, none⟩ (.slice a2 n2 p2)).setCell ⟨g, k * 5 + 3, none⟩ (.slice a3 n3 p3)) := by
  have hkl := (List.getElem?_eq_some_iff.1 hk).1
  have hno := noi_of h hn hsl
  obtain ⟨v0, v1, v2, v3, c⟩ := r
  obtain ⟨s1, -⟩ := OwnSl.storeAt (sz := 5) (enc := R5.enc) (fun _ => rfl) hn h hk (j := 0) (c := .slice a0 n0 p0) (y' := ⟨.slice a0 n0 p0, v1, v2, v3, c⟩) (by decide) rfl
  obtain ⟨s2, -⟩ := OwnSl.storeAt (sz := 5) (enc := R5.enc) (fun _ => rfl) (by simpa using hn) s1 (List.getElem?_set_self (by omega)) (j := 1) (c := .slice a1 n1 p1) (y' := ⟨.slice a0 n0 p0, .slice a1 n1 p1, v2, v3, c⟩) (by decide) rfl
  obtain ⟨s3, -⟩ := OwnSl.storeAt (sz := 5) (enc := R5.enc) (fun _ => rfl) (by simpa using hn) s2 (List.getElem?_set_self (by simp; omega)) (j := 2) (c := .slice a2 n2 p2) (y' := ⟨.slice a0 n0 p0, .slice a1 n1 p1, .slice a2 n2 p2, v3, c⟩) (by decide) rfl
  obtain ⟨s4, -⟩ := OwnSl.storeAt (sz := 5) (enc := R5.enc) (fun _ => rfl) (by simpa using hn) s3 (List.getElem?_set_self (by simp; omega)) (j := 3) (c := .slice a3 n3 p3) (y' := ⟨.slice a0 n0 p0, .slice a1 n1 p1, .slice a2 n2 p2, .slice a3 n3 p3, c⟩) (by decide) rfl
  simp only [List.set_set, Nat.add_zero] at s4
  refine ⟨s4, ?_⟩
  obtain ⟨m1, k1⟩ := hno.set (o := k * 5) (v := .slice a0 n0 p0) (fun _ e => by cases e) (by omega)
  obtain ⟨m2, k2⟩ := m1.set (o := k * 5 + 1) (v := .slice a1 n1 p1) (fun _ e => by cases e) (by omega)
  obtain ⟨m3, k3⟩ := m2.set (o := k * 5 + 2) (v := .slice a2 n2 p2) (fun _ e => by cases e) (by omega)
  obtain ⟨-, k4⟩ := m3.set (o := k * 5 + 3) (v := .slice a3 n3 p3) (fun _ e => by cases e) (by omega)
  exact ((k1.trans k2).trans k3).trans k4
theorem All2.cut {α β : Type} {R : α → β → Prop} {la : List α} {lb : List β} (h : All2 R la lb) {i j : Nat} (hi : i ≤ la.length) : All2 R (la.take i ++ la.drop j) (lb.take i ++ lb.drop j) := by
  have hl := h.1
  refine ⟨by simp [hl], fun k x y hx hy => ?_⟩
  by_cases hk : k < i
  · rw [List.getElem?_append_left (by rw [List.length_take]; omega), List.getElem?_take_of_lt hk] at hx
    rw [List.getElem?_append_left (by rw [List.length_take]; omega), List.getElem?_take_of_lt hk] at hy
    exact h.2 k x y hx hy
  · rw [List.getElem?_append_right (by rw [List.length_take]; omega), List.length_take, Nat.min_eq_left hi, List.getElem?_drop] at hx
    rw [List.getElem?_append_right (by rw [List.length_take]; omega), List.length_take, Nat.min_eq_left (by omega), List.getElem?_drop] at hy
    exact h.2 _ x y hx hy
theorem deleteFl_i {base : Nat} (xs : List R5) (g n cap k : Nat) (i j : Int) (w : World) (hn : xs.length = n) (h : OwnSl base 88 5 R5.enc w (.slice (some ⟨g, 0, none⟩) n cap) xs) (hsl : ∀ r ∈ xs, r.sl) (hk : k < n) (hi : i = (k : Int)) (hj : j = (k : Int) + 1) (hbase : base ≤ w.heap.size) :
    Calls Tryz.prog 85 #[.slice (some ⟨g, 0, none⟩) n cap, .int .i64 i, .int .i64 j] w fun e w' => ∃ v', e = .returned v' ∧ OwnSl base 88 5 R5.enc w' v' (xs.take k ++ xs.drop (k + 1)) ∧ Below base w w' ∧ IK w w' := by
  subst hi
  rw [hj, show (k : Int) + 1 = ((k + 1 : Nat) : Int) by omega]
  exact deleteFl_any xs g n cap k (k + 1) w hn h hsl hk rfl hbase
def slen (v : Value) : Nat := match v with
  | .slice _ n _ => n
  | _ => 0
theorem mrg_of {f g : Ft} (ha : f.acc = g.acc) {R : Option Bx} (h : mergeB f.box g.box = R) : mrg f g = R.map (fun c => ⟨c, f.acc⟩) := by unfold mrg; rw [if_pos ha, h]
theorem mrg_no {f g : Ft} (ha : ¬ f.acc = g.acc) : mrg f g = none := by unfold mrg; rw [if_neg ha]
set_option maxHeartbeats 4000000 in
set_option maxRecDepth 100000 in
theorem mergeNeighbours_any {lo : Nat} (fs : List Ft) (v : Value) (w : World) (ht : Tab w) (hs : Ifs lo w v fs) (hv : fvalid fs = true) :
    Calls Tryz.prog 58 #[v] w fun e w' => ∃ z, e = .returned z ∧ Ifs 0 w' z (mgd fs) ∧ Below w.heap.size w w' := by
  obtain ⟨rs0, hr0, ha0⟩ := id hs
  have h60 := fvalid_60 hv
  have hl0 := ha0.1
  have HA0 := Lib.hid ha0
  have HV := Lib.hid hv
  clear hs hv ha0
  go_enter Tryz.func58, Tryz.ntmps58
  go_wp2_with fail
  refine (cloneFl_any rs0 lo v w hr0 (by omega)).mono ?_
  rintro e w1 ⟨z1, rfl, ho1, hb1⟩
  have hz1 := hb1.size
  have HO1 := Lib.hid ho1
  clear ho1 hr0
  go_wp2_with fail
  go_loopw [3, 4, 5, 6] (fun o i _ _ wr => ∃ (rs : List R5) (L : List Ft) (k : Nat), k ≤ L.length ∧ i = .int .i64 k ∧ Hid (OwnSl w.heap.size 88 5 R5.enc wr o rs) ∧ Hid (All2 (R5.ok 0 wr) rs L) ∧ Hid (MgI fs L k) ∧ Hid (fvalid L = true) ∧ Below w.heap.size w wr) (fun o i _ _ _ => 2 * slen o - (intOf i).toNat)
  case atStart => exact ⟨rs0, fs, 0, by omega, rfl, HO1, Lib.hid (HA0.out.mono (fun _ _ h => ⟨h.1.mono (fun _ _ q => (q.below hb1).mono (Nat.zero_le _)), h.2⟩)), Lib.hid (MgI.start fs), HV, hb1⟩
  case round =>
    clear HO1 hb1 hz1
    obtain ⟨rs, L, k, hkl, rfl, HO, HA, HI, HLV, hbr⟩ := hrel
    have hzr := hbr.size
    have hrl : rs.length = L.length := HA.out.1
    have hL60 := fvalid_60 HLV.out
    obtain ⟨m, hm⟩ : ∃ m, L.length = m := ⟨_, rfl⟩
    have HM := Lib.hid hm
    rw [hm] at hkl hrl hL60
    have HRL := Lib.hid hrl
    by_cases hlt : k + 1 < m
    · obtain ⟨f, hf⟩ : ∃ f, L[k]? = some f := ⟨_, List.getElem?_eq_getElem (by omega)⟩
      obtain ⟨g, hg⟩ : ∃ g, L[k + 1]? = some g := ⟨_, List.getElem?_eq_getElem (by omega)⟩
      obtain ⟨⟨f0, f1, f2, f3, fa⟩, hrf⟩ : ∃ r, rs[k]? = some r := ⟨_, List.getElem?_eq_getElem (by omega)⟩
      obtain ⟨⟨g0, g1, g2, g3, ga⟩, hrg⟩ : ∃ r, rs[k + 1]? = some r := ⟨_, List.getElem?_eq_getElem (by omega)⟩
      have hokf := HA.out.2 k _ f hrf hf
      have hokg := HA.out.2 (k + 1) _ g hrg hg
      obtain ⟨hsf, haf⟩ := hokf
      obtain ⟨hsg, hag⟩ := hokg
      simp only at hsf haf hsg hag
      obtain ⟨a0, n0, p0, a1, n1, p1, a2, n2, p2, a3, n3, p3, rfl, rfl, rfl, rfl⟩ := sl4_form hsf
      obtain ⟨b0, m0, q0, b1, m1, q1, b2, m2, q2, b3, m3, q3, rfl, rfl, rfl, rfl⟩ := sl4_form hsg
      rcases OwnSl.form HO.out with ⟨_, h0⟩ | ⟨g5, cap5, hv5, hg1, hg2, hg3, hg4, hg5⟩
      · rw [h0] at hrl; simp at hrl; omega
      rw [hrl] at hv5 hg3
      subst hv5
      have hf5 := OwnSl.cell (sz := 5) (enc := R5.enc) (fun _ => rfl) HO.out hrf
      have hg5' := OwnSl.cell (sz := 5) (enc := R5.enc) (fun _ => rfl) HO.out hrg
      have e0 := hf5 0 _ rfl; have e1 := hf5 1 _ rfl; have e2 := hf5 2 _ rfl; have e3 := hf5 3 _ rfl; have e4 := hf5 4 _ rfl
      have c0 := hg5' 0 _ rfl; have c1 := hg5' 1 _ rfl; have c2 := hg5' 2 _ rfl; have c3 := hg5' 3 _ rfl; have c4 := hg5' 4 _ rfl
      have y3 : ∀ j, wr.frozen? ⟨g5, j, none⟩ = false := OwnSl.frz HO.out
      simp only [Nat.add_zero] at e0 c0
      have i1 : (k : Int) < (m : Int) := by omega
      have i2 : (0 : Int) ≤ (k : Int) := by omega
      have i3 : (k : Int) + 1 < (m : Int) := by omega
      have hwr : IntKind.i64.wrap ((k : Int) + 1) = (k : Int) + 1 := IntWalk.i64_in _ (by omega)
      have htn : ((k : Int) + 1).toNat = k + 1 := by omega
      have i4 : (0 : Int) ≤ (k : Int) + 1 := by omega
      have HMA := Lib.hid (mrgAt_of hf hg)
      have HSF := Lib.hid hsf
      have HSG := Lib.hid hsg
      have HVF := Lib.hid (fvalid_at HLV.out hf)
      have HVG := Lib.hid (fvalid_at HLV.out hg)
      have HRF := Lib.hid hrf
      have HF := Lib.hid hf
      clear hf5 hg5' hsf hsg hf hg hrg hrf
      have hal : Below wr.heap.size wr (wr.alloc (.cells #[.slice none 0 0, .slice none 0 0, .slice none 0 0, .slice none 0 0] 77)) := (Below.refl _ _).alloc (Nat.le_refl _) _
      go_wp2_with fail
      obtain ⟨W1, hW1⟩ : ∃ W1, wr.alloc (.cells #[.slice none 0 0, .slice none 0 0, .slice none 0 0, .slice none 0 0] 77) = W1 := ⟨_, rfl⟩
      have r0 : W1.cell? ⟨wr.heap.size, 0, none⟩ = some (.slice none 0 0) := by rw [← hW1]; simp
      have r1 : W1.cell? ⟨wr.heap.size, 1, none⟩ = some (.slice none 0 0) := by rw [← hW1]; simp
      have r2 : W1.cell? ⟨wr.heap.size, 2, none⟩ = some (.slice none 0 0) := by rw [← hW1]; simp
      have r3 : W1.cell? ⟨wr.heap.size, 3, none⟩ = some (.slice none 0 0) := by rw [← hW1]; simp
      have rz : ∀ j, W1.frozen? ⟨wr.heap.size, j, none⟩ = false := fun j => by rw [← hW1]; exact frz_new wr _ _ j
      have hz1 : W1.heap.size = wr.heap.size + 1 := by rw [← hW1]; simp
      rw [hW1] at hal ⊢
      clear hW1
      replace e0 := (hal.cell (p := ⟨g5, k * 5, none⟩) hg2).trans e0
      replace e1 := (hal.cell (p := ⟨g5, k * 5 + 1, none⟩) hg2).trans e1
      replace e2 := (hal.cell (p := ⟨g5, k * 5 + 2, none⟩) hg2).trans e2
      replace e3 := (hal.cell (p := ⟨g5, k * 5 + 3, none⟩) hg2).trans e3
      replace e4 := (hal.cell (p := ⟨g5, k * 5 + 4, none⟩) hg2).trans e4
      replace c0 := (hal.cell (p := ⟨g5, (k + 1) * 5, none⟩) hg2).trans c0
      replace c1 := (hal.cell (p := ⟨g5, (k + 1) * 5 + 1, none⟩) hg2).trans c1
      replace c2 := (hal.cell (p := ⟨g5, (k + 1) * 5 + 2, none⟩) hg2).trans c2
      replace c3 := (hal.cell (p := ⟨g5, (k + 1) * 5 + 3, none⟩) hg2).trans c3
      replace c4 := (hal.cell (p := ⟨g5, (k + 1) * 5 + 4, none⟩) hg2).trans c4
      have hgz : g5 < W1.heap.size := by omega
      have hpz : wr.heap.size < W1.heap.size := by omega
      clear hg4 hg5
      refine wp_region_over (by kernel_rfl) (by kernel_rfl) (fun ov => ?_); have ov0 := fun x => ov x (g5) (by (try simp) <;> omega); clear ov; (repeat (go_big_quiet_step (first | fail))); refine wpQuiet_nil ?_; intro w2 hw9; have hb_w2 := below_over hw9; clear hw9 ov0
      replace e0 := (hb_w2.cell (p := ⟨g5, k * 5, none⟩) hgz).trans e0
      replace e1 := (hb_w2.cell (p := ⟨g5, k * 5 + 1, none⟩) hgz).trans e1
      replace e2 := (hb_w2.cell (p := ⟨g5, k * 5 + 2, none⟩) hgz).trans e2
      replace e3 := (hb_w2.cell (p := ⟨g5, k * 5 + 3, none⟩) hgz).trans e3
      replace e4 := (hb_w2.cell (p := ⟨g5, k * 5 + 4, none⟩) hgz).trans e4
      replace c0 := (hb_w2.cell (p := ⟨g5, (k + 1) * 5, none⟩) hgz).trans c0
      replace c1 := (hb_w2.cell (p := ⟨g5, (k + 1) * 5 + 1, none⟩) hgz).trans c1
      replace c2 := (hb_w2.cell (p := ⟨g5, (k + 1) * 5 + 2, none⟩) hgz).trans c2
      replace c3 := (hb_w2.cell (p := ⟨g5, (k + 1) * 5 + 3, none⟩) hgz).trans c3
      replace c4 := (hb_w2.cell (p := ⟨g5, (k + 1) * 5 + 4, none⟩) hgz).trans c4
      replace r0 := (hb_w2.cell (p := ⟨wr.heap.size, 0, none⟩) hpz).trans r0
      replace r1 := (hb_w2.cell (p := ⟨wr.heap.size, 1, none⟩) hpz).trans r1
      replace r2 := (hb_w2.cell (p := ⟨wr.heap.size, 2, none⟩) hpz).trans r2
      replace r3 := (hb_w2.cell (p := ⟨wr.heap.size, 3, none⟩) hpz).trans r3
      replace rz := fun j => (hb_w2.frozen (p := ⟨wr.heap.size, j, none⟩) hpz).trans (rz j)
      have hz2 := hb_w2.size
      have hb2 : Below wr.heap.size wr w2 := hal.trans (hb_w2.mono hal.size)
      have hw2 : Below w.heap.size w w2 := hbr.trans (hb2.mono hzr)
      replace hgz : g5 < w2.heap.size := by omega
      replace hpz : wr.heap.size < w2.heap.size := by omega
      have HO2 := Lib.hid (OwnSl.kept HO.out hb2)
      have HA2 := Lib.hid (show All2 (R5.ok 0 w2) rs L from HA.out.mono (fun _ _ h => ⟨h.1.mono (fun _ _ q => q.below hb2), h.2⟩))
      have y2 : ∀ j, w2.frozen? ⟨g5, j, none⟩ = false := OwnSl.frz HO2.out
      clear hal hb_w2 y3 hz1
      have htw := ht.below hw2
      replace HSF := Lib.hid (HSF.out.mono (fun _ _ q => q.below hb2))
      replace HSG := Lib.hid (HSG.out.mono (fun _ _ q => q.below hb2))
      (try rw [haf] at e4)
      (try rw [hag] at c4)
      by_cases hac : f.acc = g.acc
      · have hbq : (f.acc == g.acc) = true := by rw [hac]; simp
        have HAC := Lib.hid hac
        have HAF := Lib.hid haf
        obtain ⟨R, hR⟩ : ∃ R, mergeB f.box g.box = R := ⟨_, rfl⟩
        have HR := Lib.hid hR
        clear hR hac haf hag
        rw [hbq]
        clear hbq
        go_wp2_with fail
        refine wp_region_turn2 (W := w2) 15 [BIs (.slice (some ⟨g5, 0, none⟩) m cap5), BIs (.int .i64 (k : Int)), BIs (.pointer (some ⟨g5, k * 5, none⟩)), BIs (.pointer (some ⟨g5, k * 5, none⟩)), BIs (.agg #[.slice a0 n0 p0, .slice a1 n1 p1, .slice a2 n2 p2, .slice a3 n3 p3]), BIs (.slice (some ⟨g5, 0, none⟩) m cap5), BIs (.int .i64 (k : Int)), BIs (.int .i64 ((k : Int) + 1)), BIs (.pointer (some ⟨g5, (k + 1) * 5, none⟩)), BIs (.pointer (some ⟨g5, (k + 1) * 5, none⟩)), BIs (.agg #[.slice b0 m0 q0, .slice b1 m1 q1, .slice b2 m2 q2, .slice b3 m3 q3]), (fun w v => ∃ z, v = .tuple #[z, .bool R.isSome] ∧ MG R w z), (fun w v => ∃ z, v = .tuple #[z, .bool R.isSome] ∧ MG R w z), (fun w z => MG R w z), BIs (.bool R.isSome)] (bof [BIs (.slice (some ⟨g5, 0, none⟩) m cap5), BIs (.int .i64 (k : Int)), BIs (.pointer (some ⟨g5, k * 5, none⟩)), BIs (.pointer (some ⟨g5, k * 5, none⟩)), BIs (.agg #[.slice a0 n0 p0, .slice a1 n1 p1, .slice a2 n2 p2, .slice a3 n3 p3]), BIs (.slice (some ⟨g5, 0, none⟩) m cap5), BIs (.int .i64 (k : Int)), BIs (.int .i64 ((k : Int) + 1)), BIs (.pointer (some ⟨g5, (k + 1) * 5, none⟩)), BIs (.pointer (some ⟨g5, (k + 1) * 5, none⟩)), BIs (.agg #[.slice b0 m0 q0, .slice b1 m1 q1, .slice b2 m2 q2, .slice b3 m3 q3]), (fun _ v => ∃ z, v = .tuple #[z, .bool R.isSome] ∧ True), (fun _ v => ∃ z, v = .tuple #[z, .bool R.isSome] ∧ True), (fun _ _ => True), BIs (.bool R.isSome), (fun w9 _ => ∃ wx s0 x0 t0 s1 x1 t1 s2 x2 t2 s3 x3 t3, (∀ c, R = some c → All2 (Sps 0 wx) [.slice s0 x0 t0, .slice s1 x1 t1, .slice s2 x2 t2, .slice s3 x3 t3] c) ∧ Below w2.heap.size w2 wx ∧ w9 = (((wx.setCell ⟨wr.heap.size, 0, none⟩ (.slice s0 x0 t0)).setCell ⟨wr.heap.size, 1, none⟩ (.slice s1 x1 t1)).setCell ⟨wr.heap.size, 2, none⟩ (.slice s2 x2 t2)).setCell ⟨wr.heap.size, 3, none⟩ (.slice s3 x3 t3)), BIs (.bool R.isSome)]) (by kernel_rfl) (by decide) (fun u => by simp only [frU, Act.put, List.setIfInBounds_toArray, List.set_cons_succ, List.set_cons_zero, Nat.zero_add, Nat.reduceAdd]; exact rfl) (by kernel_rfl) ⟨bst_is _, bst_is _, bst_is _, bst_is _, bst_is _, bst_is _, bst_is _, bst_is _, bst_is _, bst_is _, bst_is _, (fun _ _ _ hb ⟨z, h1, h2⟩ => ⟨z, h1, h2.below hb⟩), (fun _ _ _ hb ⟨z, h1, h2⟩ => ⟨z, h1, h2.below hb⟩), (fun _ _ _ hb h => h.below hb), bst_is _, trivial⟩ ?_ ?_; (exact ⟨stT rfl (by decide) (by kernel_rfl) (fun u w3 hC hd hI Q K hK => by (go_step; exact hK _ _ rfl (Below.refl _ _) rfl)), stT rfl (by decide) (by kernel_rfl) (fun u w3 hC hd hI Q K hK => by (go_step; exact hK _ _ rfl (Below.refl _ _) rfl)), stT rfl (by decide) (by kernel_rfl) (fun u w3 hC hd hI Q K hK => by (have hu := bis (w := w3) (hd 0 rfl); rw [hu] at hK ⊢; clear hu; have hu := bis (w := w3) (hd 1 rfl); rw [hu] at hK ⊢; clear hu; go_step; exact hK _ _ rfl (Below.refl _ _) rfl)), stT rfl (by decide) (by kernel_rfl) (fun u w3 hC hd hI Q K hK => by (have hu := bis (w := w3) (hd 2 rfl); rw [hu] at hK ⊢; clear hu; go_step; exact hK _ _ rfl (Below.refl _ _) rfl)), stT rfl (by decide) (by kernel_rfl) (fun u w3 hC hd hI Q K hK => by (have hu := bis (w := w3) (hd 3 rfl); rw [hu] at hK ⊢; clear hu; have z0 := (hC.cell (p := ⟨g5, k * 5, none⟩) hgz).trans e0; have z1 := (hC.cell (p := ⟨g5, k * 5 + 1, none⟩) hgz).trans e1; have z2 := (hC.cell (p := ⟨g5, k * 5 + 2, none⟩) hgz).trans e2; have z3 := (hC.cell (p := ⟨g5, k * 5 + 3, none⟩) hgz).trans e3; go_step; exact hK _ _ rfl (Below.refl _ _) rfl)), stT rfl (by decide) (by kernel_rfl) (fun u w3 hC hd hI Q K hK => by (go_step; exact hK _ _ rfl (Below.refl _ _) rfl)), stT rfl (by decide) (by kernel_rfl) (fun u w3 hC hd hI Q K hK => by (go_step; exact hK _ _ rfl (Below.refl _ _) rfl)), stT rfl (by decide) (by kernel_rfl) (fun u w3 hC hd hI Q K hK => by (have hu := bis (w := w3) (hd 6 rfl); rw [hu] at hK ⊢; clear hu; go_step; exact hK _ _ rfl (Below.refl _ _) rfl)), stT rfl (by decide) (by kernel_rfl) (fun u w3 hC hd hI Q K hK => by (have hu := bis (w := w3) (hd 5 rfl); rw [hu] at hK ⊢; clear hu; have hu := bis (w := w3) (hd 7 rfl); rw [hu] at hK ⊢; clear hu; go_step; exact hK _ _ rfl (Below.refl _ _) rfl)), stT rfl (by decide) (by kernel_rfl) (fun u w3 hC hd hI Q K hK => by (have hu := bis (w := w3) (hd 8 rfl); rw [hu] at hK ⊢; clear hu; go_step; exact hK _ _ rfl (Below.refl _ _) rfl)), stT rfl (by decide) (by kernel_rfl) (fun u w3 hC hd hI Q K hK => by (have hu := bis (w := w3) (hd 9 rfl); rw [hu] at hK ⊢; clear hu; have z0 := (hC.cell (p := ⟨g5, (k + 1) * 5, none⟩) hgz).trans c0; have z1 := (hC.cell (p := ⟨g5, (k + 1) * 5 + 1, none⟩) hgz).trans c1; have z2 := (hC.cell (p := ⟨g5, (k + 1) * 5 + 2, none⟩) hgz).trans c2; have z3 := (hC.cell (p := ⟨g5, (k + 1) * 5 + 3, none⟩) hgz).trans c3; go_step; exact hK _ _ rfl (Below.refl _ _) rfl)), stT rfl (by decide) (by kernel_rfl) (fun u w3 hC hd hI Q K hK => by (have hu := bis (w := w3) (hd 4 rfl); rw [hu] at hK ⊢; clear hu; have hu := bis (w := w3) (hd 10 rfl); rw [hu] at hK ⊢; clear hu; go_step; refine (mergeSides_r HR.out (htw.below hC) (HSF.out.mono (fun _ _ q => q.below hC)) (HSG.out.mono (fun _ _ q => q.below hC)) HVF.out HVG.out).mono ?_; rintro e w4 ⟨s0, x0, t0, s1, x1, t1, s2, x2, t2, s3, x3, t3, rfl, ho4, hb4⟩; exact hK _ _ rfl hb4 ⟨_, rfl, s0, x0, t0, s1, x1, t1, s2, x2, t2, s3, x3, t3, rfl, ho4⟩)), stT rfl (by decide) (by kernel_rfl) (fun u w3 hC hd hI Q K hK => by (obtain ⟨z, hu, hz⟩ := hd 11 rfl; rw [hu] at hK ⊢; clear hu; go_step; exact hK _ _ rfl (Below.refl _ _) ⟨z, rfl, hz⟩)), stT rfl (by decide) (by kernel_rfl) (fun u w3 hC hd hI Q K hK => by (obtain ⟨z, hu, hz⟩ := hd 12 rfl; rw [hu] at hK ⊢; clear hu; go_step; exact hK _ _ rfl (Below.refl _ _) hz)), stTf rfl (by decide) (fun u w3 hC hd Q K hK => by (obtain ⟨z, hu, hz⟩ := hd 12 rfl; rw [hu] at hK ⊢; clear hu; go_step; exact hK _ _ rfl (Below.refl _ _) rfl)) (fun u w3 hd Q K hK => by (dsimp only at hK ⊢; obtain ⟨z, hu, hz⟩ := hd 12 rfl; rw [hu] at hK ⊢; clear hu; go_step; exact hK _ rfl rfl)), stTt rfl (by decide) (fun u w3 hC hd Q K hK => by (dsimp only at hK ⊢; obtain ⟨s0, x0, t0, s1, x1, t1, s2, x2, t2, s3, x3, t3, hu, hz⟩ := hd 13 rfl; rw [hu] at hK ⊢; clear hu; have z0 := (hC.cell (p := ⟨wr.heap.size, 0, none⟩) hpz).trans r0; have z1 := (hC.cell (p := ⟨wr.heap.size, 1, none⟩) hpz).trans r1; have z2 := (hC.cell (p := ⟨wr.heap.size, 2, none⟩) hpz).trans r2; have z3 := (hC.cell (p := ⟨wr.heap.size, 3, none⟩) hpz).trans r3; have y0 := (hC.frozen (p := ⟨wr.heap.size, 0, none⟩) hpz).trans (rz 0); have y1 := (hC.frozen (p := ⟨wr.heap.size, 1, none⟩) hpz).trans (rz 1); have y2 := (hC.frozen (p := ⟨wr.heap.size, 2, none⟩) hpz).trans (rz 2); have y3 := (hC.frozen (p := ⟨wr.heap.size, 3, none⟩) hpz).trans (rz 3); go_step; refine hK _ _ rfl (fun j hj h => ?_) ?_; (match j, hj, h with | 0, _, h => exact h | 1, _, h => exact h | 2, _, h => exact h | 3, _, h => exact h | 4, _, h => exact h | 5, _, h => exact h | 6, _, h => exact h | 7, _, h => exact h | 8, _, h => exact h | 9, _, h => exact h | 10, _, h => exact h | 11, _, h => exact (let ⟨z, g1, _⟩ := h; ⟨z, g1, trivial⟩) | 12, _, h => exact (let ⟨z, g1, _⟩ := h; ⟨z, g1, trivial⟩) | 13, _, _ => exact trivial | 14, _, h => exact h | j + 15, hj, _ => exact absurd hj (by omega)); exact ⟨w3, s0, x0, t0, s1, x1, t1, s2, x2, t2, s3, x3, t3, hz, hC, rfl⟩)), stTb rfl (by decide) (by kernel_rfl) (fun u w3 hd Q K hK => by (dsimp only at hK ⊢; have hu := bis (w := w3) (hd 14 rfl); rw [hu] at hK ⊢; clear hu; go_step; exact hK _ rfl rfl)), trivial⟩); intro u w3 hF; rw [bis (w := w3) (hF 0 (by decide))]; rw [bis (w := w3) (hF 1 (by decide))]; rw [bis (w := w3) (hF 2 (by decide))]; rw [bis (w := w3) (hF 3 (by decide))]; rw [bis (w := w3) (hF 4 (by decide))]; rw [bis (w := w3) (hF 5 (by decide))]; rw [bis (w := w3) (hF 6 (by decide))]; rw [bis (w := w3) (hF 7 (by decide))]; rw [bis (w := w3) (hF 8 (by decide))]; rw [bis (w := w3) (hF 9 (by decide))]; rw [bis (w := w3) (hF 10 (by decide))]; rw [bis (w := w3) (hF 14 (by decide))]; have h8 := hF 15 (by decide); generalize u 15 = v8 at *; rw [bis (w := w3) (hF 16 (by decide))]; generalize u 11 = vx11 at *; generalize u 12 = vx12 at *; generalize u 13 = vx13 at *; clear hF
        obtain ⟨wx, s0, x0, t0, s1, x1, t1, s2, x2, t2, s3, x3, t3, hres, hbx, hw3e⟩ := h8
        have hzx := hbx.size
        have hb3 : Below wr.heap.size wr w3 := by rw [hw3e]; exact ((((hb2.trans (hbx.mono (by omega))).setCell (Nat.le_refl _) _).setCell (Nat.le_refl _) _).setCell (Nat.le_refl _) _).setCell (Nat.le_refl _) _
        have k0 : wx.cell? ⟨wr.heap.size, 0, none⟩ = some (.slice none 0 0) := (hbx.cell (p := ⟨wr.heap.size, 0, none⟩) hpz).trans r0
        have k1 : wx.cell? ⟨wr.heap.size, 1, none⟩ = some (.slice none 0 0) := (hbx.cell (p := ⟨wr.heap.size, 1, none⟩) hpz).trans r1
        have k2 : wx.cell? ⟨wr.heap.size, 2, none⟩ = some (.slice none 0 0) := (hbx.cell (p := ⟨wr.heap.size, 2, none⟩) hpz).trans r2
        have k3 : wx.cell? ⟨wr.heap.size, 3, none⟩ = some (.slice none 0 0) := (hbx.cell (p := ⟨wr.heap.size, 3, none⟩) hpz).trans r3
        have hnoi : NoI wx wr.heap.size 4 := fun o ho => by
          rcases (by omega : o = 0 ∨ o = 1 ∨ o = 2 ∨ o = 3) with rfl | rfl | rfl | rfl
          · exact ⟨_, k0, fun n e => by cases e⟩
          · exact ⟨_, k1, fun n e => by cases e⟩
          · exact ⟨_, k2, fun n e => by cases e⟩
          · exact ⟨_, k3, fun n e => by cases e⟩
        obtain ⟨-, hik⟩ := NoI.sets [.slice s0 x0 t0, .slice s1 x1 t1, .slice s2 x2 t2, .slice s3 x3 t3] 0 wx hnoi (fun v hv n e => by subst e; simp at hv) (by simp)
        simp only [World.setCells, Nat.zero_add, Nat.reduceAdd] at hik
        rw [← hw3e] at hik
        have m0 : w3.cell? ⟨wr.heap.size, 0, none⟩ = some (.slice s0 x0 t0) := by
          rw [hw3e, World.cell?_setCell_other _ _ _ _ (by simp), World.cell?_setCell_other _ _ _ _ (by simp), World.cell?_setCell_other _ _ _ _ (by simp)]
          exact World.cell?_setCell_same' _ _ _ (by rw [k0]; rfl)
        have m1 : w3.cell? ⟨wr.heap.size, 1, none⟩ = some (.slice s1 x1 t1) := by
          rw [hw3e, World.cell?_setCell_other _ _ _ _ (by simp), World.cell?_setCell_other _ _ _ _ (by simp)]
          exact World.cell?_setCell_same' _ _ _ (by rw [World.cell?_setCell_other _ _ _ _ (by simp), k1]; rfl)
        have m2 : w3.cell? ⟨wr.heap.size, 2, none⟩ = some (.slice s2 x2 t2) := by
          rw [hw3e, World.cell?_setCell_other _ _ _ _ (by simp)]
          exact World.cell?_setCell_same' _ _ _ (by rw [World.cell?_setCell_other _ _ _ _ (by simp), World.cell?_setCell_other _ _ _ _ (by simp), k2]; rfl)
        have m3 : w3.cell? ⟨wr.heap.size, 3, none⟩ = some (.slice s3 x3 t3) := by
          rw [hw3e]
          exact World.cell?_setCell_same' _ _ _ (by rw [World.cell?_setCell_other _ _ _ _ (by simp), World.cell?_setCell_other _ _ _ _ (by simp), World.cell?_setCell_other _ _ _ _ (by simp), k3]; rfl)
        have hz3 : w3.heap.size = wx.heap.size := by rw [hw3e]; simp
        have HRES := Lib.hid (show ∀ c, R = some c → All2 (Sps 0 w3) [.slice s0 x0 t0, .slice s1 x1 t1, .slice s2 x2 t2, .slice s3 x3 t3] c from fun c hc => (hres c hc).mono (fun _ _ q => q.ik hik))
        have hw3 : Below w.heap.size w w3 := hbr.trans (hb3.mono hzr)
        have hblk : ∀ j, j < wr.heap.size → w3.heap[j]? = wr.heap[j]? := fun j hj => hb3.block j hj
        have HO3 := Lib.hid (OwnSl.kept HO.out hb3)
        have HA3 := Lib.hid (show All2 (R5.ok 0 w3) rs L from HA.out.mono (fun _ _ h => ⟨h.1.mono (fun _ _ q => q.below hb3), h.2⟩))
        have HSL := Lib.hid (show ∀ r ∈ rs, r.sl from fun r hr => by
          obtain ⟨j, hj⟩ := List.getElem?_of_mem hr
          have hlj := (List.getElem?_eq_some_iff.1 hj).1
          exact (HA3.out.2 j r _ hj (List.getElem?_eq_getElem (by rw [HM.out, ← HRL.out]; exact hlj))).sl)
        have y3 : ∀ j, w3.frozen? ⟨g5, j, none⟩ = false := OwnSl.frz HO3.out
        have q3 := OwnSl.cell (sz := 5) (enc := R5.enc) (fun _ => rfl) HO3.out HRF.out
        have d0 := q3 0 _ rfl
        have d1 := q3 1 _ rfl
        have d2 := q3 2 _ rfl
        have d3 := q3 3 _ rfl
        simp only [Nat.add_zero] at d0
        have HMM := Lib.hid (HMA.out.trans (mrg_of HAC.out HR.out))
        clear hw3e hres hbx k0 k1 k2 k3 hnoi hik r0 r1 r2 r3 rz e0 e1 e2 e3 e4 c0 c1 c2 c3 c4 q3 y2 htw hblk
        cases R with
        | none =>
          go_wp2
          exact ⟨⟨rs, L, k + 1, by omega, by go_num, HO3, HA3, Lib.hid (HI.out.next HMM.out), HLV, hw3⟩, by simp [intOf, slen]; omega⟩
        | some c =>
          have hg3' : g5 < w3.heap.size := by omega
          have hp3' : wr.heap.size < w3.heap.size := by omega
          obtain ⟨hst, hik⟩ := store4 HO3.out HRL.out.symm HRF.out HSL.out s0 s1 s2 s3 x0 t0 x1 t1 x2 t2 x3 t3
          have hB : Below w.heap.size w ((((w3.setCell ⟨g5, k * 5, none⟩ (.slice s0 x0 t0)).setCell ⟨g5, k * 5 + 1, none⟩ (.slice s1 x1 t1)).setCell ⟨g5, k * 5 + 2, none⟩ (.slice s2 x2 t2)).setCell ⟨g5, k * 5 + 3, none⟩ (.slice s3 x3 t3)) := (((hw3.setCell hg1 _).setCell hg1 _).setCell hg1 _).setCell hg1 _
          have HST := Lib.hid hst
          have HIK := Lib.hid hik
          have HROW := Lib.hid (HRES.out c rfl)
          clear hst hik
          go_wp2_with fail
          refine (deleteFl_i _ g5 m cap5 (k + 1) _ _ _ (by rw [List.length_set]; exact HRL.out) HST.out (fun r hr => ?_) hlt (by omega) (by omega) (by have := hB.size; omega)).mono ?_
          · rcases List.mem_or_eq_of_mem_set hr with hr | rfl
            · exact HSL.out r hr
            · exact ⟨_, _, _, _, _, _, _, _, _, _, _, _, rfl, rfl, rfl, rfl⟩
          rintro e w4 ⟨z4, rfl, ho4, hb4, hk4⟩
          have hw4 := hB.trans hb4
          have HIK4 := Lib.hid (HIK.out.trans hk4)
          have HO4 := Lib.hid ho4
          have HX := Lib.hid (show mrgAt L k = some ⟨c, f.acc⟩ from HMM.out)
          have HSE := Lib.hid (mput_set (h := (⟨c, f.acc⟩ : Ft)) (by rw [HM.out]; exact hlt : k + 1 < L.length))
          have HA4 := Lib.hid (show All2 (R5.ok 0 w4) ((rs.set k ⟨.slice s0 x0 t0, .slice s1 x1 t1, .slice s2 x2 t2, .slice s3 x3 t3, fa⟩).take (k + 1) ++ (rs.set k ⟨.slice s0 x0 t0, .slice s1 x1 t1, .slice s2 x2 t2, .slice s3 x3 t3, fa⟩).drop (k + 1 + 1)) (mput L k ⟨c, f.acc⟩) by
            rw [HSE.out]
            refine All2.cut ((HA3.out.mono (fun _ _ h => h.ik HIK4.out)).set ⟨HROW.out.mono (fun _ _ q => q.ik HIK4.out), HAF.out⟩ k) (by rw [List.length_set, HRL.out]; omega))
          obtain ⟨z4a, z4n, z4c, rfl, rfl⟩ : ∃ a n c, z4 = .slice a n c ∧ n = m - 1 := by
            have hlen : ∀ r : R5, ((rs.set k r).take (k + 1) ++ (rs.set k r).drop (k + 1 + 1)).length = m - 1 := fun r => by
              have := HRL.out
              rw [List.length_append, List.length_take, List.length_drop, List.length_set]
              omega
            rcases OwnSl.form ho4 with ⟨h, h0⟩ | ⟨g, cp, h, _⟩
            · refine ⟨_, _, _, h, ?_⟩
              have h1 := hlen ⟨.slice s0 x0 t0, .slice s1 x1 t1, .slice s2 x2 t2, .slice s3 x3 t3, fa⟩
              rw [h0] at h1
              exact h1
            · exact ⟨_, _, _, h, hlen _⟩
          clear hb4 hk4 ho4
          cases k with
          | zero =>
            go_wp2
            go_roundw
            case rel => exact ⟨_, _, 0, by omega, by go_num, HO4, HA4, Lib.hid (HI.out.back HX.out), Lib.hid (mput_valid HLV.out HX.out), hw4⟩
            case measure => simp [intOf, slen]; omega
          | succ k =>
            have hk1 : ((k + 1 : Nat) : Int) - 1 = (k : Int) := by omega
            have hmx : max (k : Int) 0 = (k : Int) := by omega
            go_wp2
            go_roundw
            case rel => exact ⟨_, _, k, by have := mput_len (h := (⟨c, f.acc⟩ : Ft)) (mrgAt_lt HX.out); have := HM.out; omega, by go_num, HO4, HA4, Lib.hid (HI.out.back HX.out), Lib.hid (mput_valid HLV.out HX.out), hw4⟩
            case measure => simp [intOf, slen]; omega
      · have hbq : (f.acc == g.acc) = false := by simpa using hac
        have HMM := Lib.hid (HMA.out.trans (mrg_no hac))
        clear haf hag hac
        rw [hbq]
        clear hbq
        go_wp2
        exact ⟨⟨rs, L, k + 1, by omega, by go_num, HO2, HA2, Lib.hid (HI.out.next HMM.out), HLV, hw2⟩, by simp [intOf, slen]; omega⟩
    · have hge : ¬ ((k : Int) + 1 < (m : Int)) := by omega
      have hdone := HI.out.done (by rw [HM.out]; omega)
      have HD := Lib.hid hdone
      rcases OwnSl.form HO.out with ⟨he, h0⟩ | ⟨g5, cap5, hv5, hg1, hg2, hg3, hg4, hg5⟩
      · rw [h0] at hrl
        simp only [List.length_nil] at hrl
        subst hrl
        rw [he] at HO ⊢
        clear hdone
        go_wp2
        go_ret
        exact ⟨_, rfl, by rw [HD.out]; exact ⟨rs, SlFr.mono (OwnSl.fr (sz := 5) (enc := R5.enc) (fun _ => rfl) HO.out) (Nat.zero_le _), HA.out⟩, hbr⟩
      · rw [HRL.out] at hv5
        subst hv5
        clear hdone
        go_wp2
        go_ret
        exact ⟨_, rfl, by rw [HD.out]; exact ⟨rs, SlFr.mono (OwnSl.fr (sz := 5) (enc := R5.enc) (fun _ => rfl) HO.out) (Nat.zero_le _), HA.out⟩, hbr⟩
end Go.Proofs.YtajcogpfmpehkaaGreatDoor
