/- The library's Delete at tables: in place. -/
import Derived.Test.YtfnfpekjjmejnaaTbBs
import Derived.Deep.RegionLaw
namespace Go.Proofs.Ytfnfpekjjmejnaa
open Go.RowKit
theorem setCells_wSet (g : Nat) : ∀ (vs : List Value) (o : Nat) (w : World), w.setCells g o vs = wSet w g o vs
  | [], _, _ => rfl
  | v :: vs, o, w => by simp only [World.setCells, wSet]; exact setCells_wSet g vs (o + 1) _
theorem setAll_take : ∀ (cs L : List Value) (o m : Nat), m ≤ o → (setAll L o cs).take m = L.take m
  | [], _, _, _, _ => rfl
  | c :: cs, L, o, m, h => by
    simp only [setAll]
    rw [setAll_take cs _ (o + 1) m (by omega), List.take_set_of_le h]
theorem ownsRow_short {base e sz g n m cap : Nat} {w : World} {L : List Value} (h : w.ownsRow base e sz (.slice (some ⟨g, 0, none⟩) n cap) n L) (hm : m ≤ n) : w.ownsRow base e sz (.slice (some ⟨g, 0, none⟩) m cap) m (L.take (m * sz)) := by
  obtain ⟨h1, h2 | ⟨g', cap', cur, he, hb, hh, hn, hc, hs, ht⟩⟩ := h
  · cases h2.1
  · obtain ⟨e1, -, rfl⟩ := Value.slice.inj he
    obtain ⟨rfl, -, -⟩ := Addr.mk.inj (Option.some.inj e1)
    have hle : m * sz ≤ n * sz := Nat.mul_le_mul_right _ hm
    refine ⟨by rw [List.length_take, h1, Nat.min_eq_left hle], .inr ⟨g, cap, cur, rfl, hb, hh, by omega, hc, hs, ?_⟩⟩
    rw [← ht, List.take_take, Nat.min_eq_left hle]
theorem del_cells (xs : List En) (k : Nat) (hk : k < xs.length) (zs : List Value) :
    (setAll (setAll (xs.flatMap En.enc) (k * 3) ((xs.drop (k + 1)).flatMap En.enc)) ((xs.length - 1) * 3) zs).take ((xs.length - 1) * 3) = (xs.take k ++ xs.drop (k + 1)).flatMap En.enc := by
  have hlen : ∀ ys : List En, (ys.flatMap En.enc).length = ys.length * 3 := fun ys => length_flatMap (sz := 3) (enc := En.enc) (fun _ => rfl) ys
  rw [setAll_take _ _ _ _ (Nat.le_refl _)]
  have hA : ((xs.take k).flatMap En.enc).length = k * 3 := by rw [hlen, List.length_take, Nat.min_eq_left (by omega)]
  have hsplit : xs.flatMap En.enc = (xs.take k).flatMap En.enc ++ (xs.drop k).flatMap En.enc := by rw [← List.flatMap_append, List.take_append_drop]
  have hN : ((xs.drop (k + 1)).flatMap En.enc).length = (xs.length - (k + 1)) * 3 := by rw [hlen, List.length_drop]
  have hR : ((xs.drop k).flatMap En.enc).length = (xs.length - k) * 3 := by rw [hlen, List.length_drop]
  rw [hsplit]
  generalize (xs.drop k).flatMap En.enc = R at *
  rw [show k * 3 = ((xs.take k).flatMap En.enc).length + 0 by rw [hA]; rfl, setAll_append_right, List.flatMap_append]
  generalize (xs.take k).flatMap En.enc = A at *
  generalize (xs.drop (k + 1)).flatMap En.enc = B at *
  rw [← List.take_append_drop B.length R, setAll_head _ _ B (by rw [List.length_take]; omega), ← List.append_assoc, List.take_append_of_le_length (by rw [List.length_append]; omega), List.take_of_length_le (by rw [List.length_append]; omega)]
theorem zeroEn (w : World) : (zeroValue 35).run Try.prog w = .ok (.agg #[.int .i64 0, .int .i64 0, .int .i64 0]) w := by kernel_rfl
theorem clear_one (w : World) (ty : TypeId) (g o n c : Nat) (hn : n = 1) (hc : ∀ j, j < 3 → (w.cell? ⟨g, o + j, none⟩).isSome = true) (hf : ∀ j, w.frozen? ⟨g, j, none⟩ = false) :
    (Builtin.clear_ #[25] ty #[.slice (some ⟨g, o, none⟩) n c]).run Try.prog w = .ok (.tuple #[]) (w.setCells g o [.int .i64 0, .int .i64 0, .int .i64 0]) := by
  subst hn
  have hst := run_storeCells_cells (P := Try.prog) g o [.int .i64 0, .int .i64 0, .int .i64 0] 0 w (by simpa using hc) (fun j _ => hf _) (by intro v hv; simp at hv; subst hv; simp [Value.oneCell'])
  have hz : (Builtin.zeroCells (Value.agg #[.int .i64 0, .int .i64 0, .int .i64 0]).cells 1).toList = [.int .i64 0, .int .i64 0, .int .i64 0] := by first | kernel_rfl | simp [Builtin.zeroCells, Value.cells, List.range_succ]
  simp only [Nat.add_zero] at hst
  simp [Builtin.clear_, run_underlying Try.underlying25, zeroEn, hz, hst]
set_option maxRecDepth 1000000 in
set_option maxHeartbeats 4000000 in
theorem delete_any {base : Nat} (xs : List En) (g n cap k j : Nat) (w : World) (hn : xs.length = n) (h : OwnEn base w (.slice (some ⟨g, 0, none⟩) n cap) xs) (hk : k < n) (hj : j = k + 1) (hbase : base ≤ w.heap.size) :
    Calls Try.prog 55 #[.slice (some ⟨g, 0, none⟩) n cap, .int .i64 k, .int .i64 j] w fun e w' => ∃ v', e = .returned v' ∧ OwnEn base w' v' (xs.take k ++ xs.drop (k + 1)) ∧ Below base w w' := by
  obtain ⟨i0, hi0, hy0, hz1, hy2⟩ := info_parts infoEn
  have t22 := Try.underlying25
  have mixed : Try.prog.follows Departure.mixedOrders = true := by kernel_rfl
  have hd : OwnEn base w.drew (.slice (some ⟨g, 0, none⟩) n cap) xs := h
  have hfz : ∀ o, w.drew.frozen? ⟨g, o, none⟩ = false := OwnSl.frz hd
  obtain ⟨hnc, hcm⟩ : n ≤ cap ∧ cap ≤ maxLen := by
    rcases OwnSl.form hd with ⟨h0, _⟩ | ⟨g', cp, h0, _, _, h1, h2, _⟩
    · cases h0
    · obtain ⟨_, _, rfl⟩ := Value.slice.inj h0
      exact ⟨by omega, h2⟩
  unfold maxLen at hcm
  obtain ⟨news, hnews⟩ : ∃ news, news = (xs.drop j).flatMap En.enc := ⟨_, rfl⟩
  have hlen : news.length = (n - j) * 3 := by rw [hnews, length_flatMap (sz := 3) (enc := En.enc) (fun _ => rfl), List.length_drop, hn]
  have hcell : ∀ t u, (xs.flatMap En.enc)[t]? = some u → w.drew.cell? ⟨g, t, none⟩ = some u := by
    intro t u hu
    have := (SlAt.flat (sz := 3) (enc := En.enc) (by omega) (fun _ => rfl) (hn ▸ OwnEn.ens hd : SlAt 3 En.enc w.drew (.slice (some ⟨g, 0, none⟩) xs.length cap) xs)) t u hu
    rwa [Addr.add_lit, Nat.zero_add] at this
  have hflat : (xs.flatMap En.enc).length = n * 3 := by rw [length_flatMap (sz := 3) (enc := En.enc) (fun _ => rfl), hn]
  have hthere : ∀ t, t < n * 3 → (w.drew.cell? ⟨g, t, none⟩).isSome = true := fun t ht => by
    rw [hcell t _ (List.getElem?_eq_getElem (by omega))]; rfl
  have hsplit : xs.flatMap En.enc = (xs.take j).flatMap En.enc ++ news := by rw [hnews, ← List.flatMap_append, List.take_append_drop]
  have hAl : ((xs.take j).flatMap En.enc).length = j * 3 := by rw [length_flatMap (sz := 3) (enc := En.enc) (fun _ => rfl), List.length_take, Nat.min_eq_left (by omega)]
  have hsrc0 : ∀ t u, news[t]? = some u → w.drew.cell? ⟨g, j * 3 + t, none⟩ = some u := fun t u hu => hcell _ _ (by
    rw [hsplit, List.getElem?_append_right (by omega), hAl, show j * 3 + t - j * 3 = t by omega]; exact hu)
  obtain ⟨A, hA, hsrc⟩ : ∃ A : Addr, (if cap = j then some (⟨g, 0, none⟩ : Addr) else some ⟨g, j * 3, none⟩) = some A ∧ Hid (∀ t u, news[t]? = some u → w.drew.cell? (A.add t) = some u) := by
    by_cases h : cap = j
    · refine ⟨⟨g, 0, none⟩, by simp [h], fun t u hu => ?_⟩
      have h0 : news.length = 0 := by rw [hlen]; omega
      rw [List.length_eq_zero_iff.1 h0] at hu
      simp at hu
    · refine ⟨⟨g, j * 3, none⟩, by simp [h], fun t u hu => ?_⟩
      rw [Addr.add_lit]
      exact hsrc0 t u hu
  have s1 : Hid (news.length = (n - j) * 3) := hlen
  have s2 : Hid (∀ u ∈ news, u.oneCell' = true) := by rw [hnews]; exact en_one _
  have s3 : Hid (∀ t, t < news.length → (w.drew.cell? ⟨g, 0 + k * 3 + t, none⟩).isSome = true ∧ w.drew.frozen? ⟨g, 0 + k * 3 + t, none⟩ = false) := fun t ht => ⟨hthere _ (by rw [hlen] at ht; omega), hfz _⟩
  obtain ⟨W1, hW1⟩ : ∃ W1, W1 = w.drew.setCells g (0 + k * 3) news := ⟨_, rfl⟩
  have hown1 := owns_wSet news (k * 3) w.drew _ (show w.drew.ownsRow base 35 3 (.slice (some ⟨g, 0, none⟩) n cap) n (xs.flatMap En.enc) by have := hd; unfold OwnEn OwnSl at this; rwa [hn] at this)
  rw [← setCells_wSet, show k * 3 = 0 + k * 3 by omega, ← hW1] at hown1
  have hfz1 : ∀ o, W1.frozen? ⟨g, o, none⟩ = false := fun o => World.ownsRow.frozenAt hown1.1 o
  have hm1 : k + (n - j) = n - 1 := by omega
  have hthere1 : ∀ t, t < n * 3 → (W1.cell? ⟨g, t, none⟩).isSome = true := fun t ht => by
    rw [hW1]
    exact World.isSome_setCells g news _ _ _ (hthere t ht)
  have hcl := fun ty => clear_one W1 ty g ((k + (n - j)) * 3) (n - (k + (n - j))) (cap - (k + (n - j))) (by omega) (fun t ht => hthere1 _ (by omega)) hfz1
  have hown2 := owns_wSet [.int .i64 0, .int .i64 0, .int .i64 0] ((k + (n - j)) * 3) W1 _ hown1.1
  rw [← setCells_wSet] at hown2
  have hfin := ownsRow_short (m := k + (n - j)) hown2.1 (by omega)
  simp only [Nat.zero_add] at hfin
  have HFIN : Hid (OwnEn base (W1.setCells g ((k + (n - j)) * 3) [.int .i64 0, .int .i64 0, .int .i64 0]) (.slice (some ⟨g, 0, none⟩) (k + (n - j)) cap) (xs.take k ++ xs.drop (k + 1))) := by
    unfold OwnEn OwnSl
    have e1 : (xs.take k ++ xs.drop (k + 1)).length = k + (n - j) := by simp [hn]; omega
    rw [e1, ← del_cells xs k (by omega) [.int .i64 0, .int .i64 0, .int .i64 0], hn, ← hm1, ← hj, ← hnews]
    exact hfin
  have hb1 : Below base w W1 := belGrown (w0 := w.drew) ⟨rfl, rfl, rfl, Nat.le_refl _, fun _ _ => rfl⟩ hd hown1.2 hbase
  have HB := Lib.hid (belGrown hb1 hown1.1 hown2.2 (Nat.le_trans hbase hb1.size))
  have hW : Hid (W1 = w.drew.setCells g (0 + k * 3) news) := hW1
  have hkc : k ≤ cap := by omega
  have hkj2 : k ≤ j := by omega
  have hjn : j ≤ n := by omega
  have hjc : j ≤ cap := by omega
  have hkj : (k : Int) ≠ (j : Int) := by omega
  have hmc : cap ≠ k + (n - j) := by omega
  clear hW1 hown1 hown2 hfin hb1 hfz1 hthere1 hsrc0 hAl hsplit hthere hflat hcell hfz hd h hnews hlen hn hj hm1 hy0 hy2
  go_enter Try.func55, Try.ntmps55
  go_wp2_with fail
  go_region_law (refine step_append_room rfl (.tmp 22) (.tmp 25) 25 rfl 35 i0 3 t22 hi0 hz1 g 0 k cap (by simp [Act.eval, Act.put]) A (n - j) (cap - j) news (by simp [Act.eval, Act.put]) s1.out hsrc.out s2.out (by omega) s3.out ?_; rw [← hW.out])
  go_wp2
  go_ret
  exact ⟨_, rfl, HFIN.out, HB.out⟩
end Go.Proofs.Ytfnfpekjjmejnaa
