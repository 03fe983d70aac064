/- The library's Insert at tables: one entry. -/
import Derived.Test.YtfnfpekjjmejnaaTbDl
import Derived.Laws.Externs
import Derived.Lib.Overlaps
import Derived.Lib.AppendZerosOnto
import Derived.Lib.SliceRun
import Derived.Laws.IdiomCopy
import Derived.Laws.NewBlocks
namespace Go.Proofs.Ytfnfpekjjmejnaa
open Go.RowKit
/-- All is read before anything is written: elements of any number of cells. -/
theorem run_copy_flat {P : Program} (sz : Nat) (w : World) (dT sT ty elem : TypeId) (b o dLen dCap : Nat) (a : Addr) (sLen sCap : Nat) (cs : List Value)
    (hu : P.underlying dT = some (.slice elem)) (hs : (P.info? elem).map (·.size) = some sz) (hn : cs.length = Nat.min sLen dLen * sz)
    (hsrc : ∀ j v, cs[j]? = some v → w.cell? (a.add j) = some v) (hc : ∀ j, j < cs.length → (w.cell? ⟨b, o + j, none⟩).isSome = true) (hf : ∀ j, j < cs.length → w.frozen? ⟨b, o + j, none⟩ = false) (h1 : ∀ v ∈ cs, v.oneCell' = true) :
    (Builtin.copy_ #[dT, sT] ty #[.slice (some ⟨b, o, none⟩) dLen dCap, .slice (some a) sLen sCap]).run P w = .ok (goInt (Nat.min sLen dLen)) (w.setCells b o cs) := by
  have hl := run_loadCells_list (P := P) w a cs hsrc
  have hst := run_storeCells_cells (P := P) b o cs 0 w (by simpa using hc) (by simpa using hf) h1
  cases hq : P.info? elem with
  | none => simp [hq] at hs
  | some i =>
    have hi : i.size = sz := by simpa [hq] using hs
    simp [Builtin.copy_, run_underlying hu, Builtin.lenOf, Builtin.firstCells, sizeOf, typeInfo, hq, hi, ← hn, hl, hst]
theorem wp_copy_run {P : Program} (w : World) {o : Oper} {a : Act} {K : Act → World → Prop} {Q : Exit → Act → World → Prop} (d s : Operand) (t t' : TypeId)
    (ho : o.op = .call { callee := .builtin .copy, args := #[d, s], argTypes := #[t, t'] }) (v u : Value) (hd : a.eval d = v) (hs : a.eval s = u) {v' : Value} {w' : World}
    (hr : (Builtin.copy_ #[t, t'] o.type #[v, u]).run P w = .ok v' w') (h : K (a.put o.dst v') w') : o.wp P a w K Q := by
  unfold Oper.wp execOp
  simp only [ho, resolve, invoke, builtin, Sem.run_bind, Sem.run_pure, Result.andThen_ok, List.map_toArray, List.map_cons, List.map_nil, hd, hs, hr]
  exact h
theorem wpList_copy_run {P : Program} (w : World) {ops : Array Oper} {rest : List Oper} {o : Oper} {a : Act} {Q : Exit → Act → World → Prop} (hgd : o.guard = none) (d s : Operand) (t t' : TypeId)
    (ho : o.op = .call { callee := .builtin .copy, args := #[d, s], argTypes := #[t, t'] }) (v u : Value) (hd : a.eval d = v) (hs : a.eval s = u) {v' : Value} {w' : World}
    (hr : (Builtin.copy_ #[t, t'] o.type #[v, u]).run P w = .ok v' w') (h : wpList P ops Q rest (a.put o.dst v') w') : wpList P ops Q (o :: rest) a w :=
  wpList_plain hgd fun _ hK => wp_copy_run w d s t t' ho v u hd hs hr (hK _ _ h)
theorem step_copy_run {P : Program} {ops : Array Oper} {o : Oper} {a : Act} {w : World} {K : Act → World → Prop} {Q : Exit → Act → World → Prop} {E : Prop}
    (hg : o.guard = none) (d x : Operand) (dT sT : TypeId) (hop : o.op = Op.call { callee := Callee.builtin Builtin.copy, args := #[d, x], argTypes := #[dT, sT] })
    (v u : Value) (hd : a.eval d = v) (hx : a.eval x = u) {v' : Value} {w' : World} (hr : (Builtin.copy_ #[dT, sT] o.type #[v, u]).run P w = .ok v' w') (hK : K (a.put o.dst v') w') :
    if Region.wanted o (yielded ops a.tmps) = true then Oper.wp P o a w K Q else E := by
  have hw : Region.wanted o (yielded ops a.tmps) = true := by simp [Region.wanted, hg]
  rw [if_pos hw]
  exact wp_copy_run w d x dT sT hop v u hd hx hr hK
theorem drew_setCells' (b : Nat) : ∀ (vs : List Value) (o : Nat) (w : World), (w.setCells b o vs).drew = w.drew.setCells b o vs
  | [], _, _ => rfl
  | v :: r, o, w => by rw [World.setCells, World.setCells, drew_setCells' b r]; rfl
/-- The cells behind an insertion in place. -/
theorem ins_cells (A B Z E : List Value) (hZ : Z.length = E.length) : setAll (setAll (A ++ B ++ Z) (A.length + E.length) B) A.length E = A ++ E ++ B := by
  rw [List.append_assoc A B Z, setAll_append_right]
  have h1 : setAll (B ++ Z) E.length B = (B ++ Z).take E.length ++ B := by
    have hR : ((B ++ Z).drop E.length).length = B.length := by simp; omega
    have h0 := setAll_append_right ((B ++ Z).take E.length) ((B ++ Z).drop E.length) B 0
    rw [List.take_append_drop, show ((B ++ Z).take E.length).length + 0 = E.length by simp; omega] at h0
    rw [h0]
    congr 1
    have h2 := setAll_head ((B ++ Z).drop E.length) [] B hR
    simpa using h2
  rw [h1]
  have h3 := setAll_append_right A ((B ++ Z).take E.length ++ B) E 0
  rw [Nat.add_zero] at h3
  rw [h3, setAll_head _ _ E (by simp; omega), List.append_assoc]
/-- A slice of the call's own with room, one longer. -/
theorem ownsRow_long {base e sz g n cap : Nat} {w : World} {L : List Value} (h : w.ownsRow base e sz (.slice (some ⟨g, 0, none⟩) n cap) n L) (hm : n + 1 ≤ cap) :
    ∃ Z, Z.length = sz ∧ w.ownsRow base e sz (.slice (some ⟨g, 0, none⟩) (n + 1) cap) (n + 1) (L ++ Z) := by
  obtain ⟨h1, h2 | ⟨g', cap', cur, he, hb, hh, hn, hc, hs, ht⟩⟩ := h
  · cases h2.1
  · obtain ⟨e1, -, rfl⟩ := Value.slice.inj he
    obtain ⟨rfl, -, -⟩ := Addr.mk.inj (Option.some.inj e1)
    have hle : (n + 1) * sz ≤ cap * sz := Nat.mul_le_mul_right _ hm
    have hadd : (n + 1) * sz = n * sz + sz := by rw [Nat.add_mul, Nat.one_mul]
    refine ⟨(cur.toList.drop (n * sz)).take sz, by simp [hs]; omega, ?_, .inr ⟨g, cap, cur, rfl, hb, hh, hm, hc, hs, ?_⟩⟩
    · simp [h1, hs]; omega
    · rw [hadd, List.take_add, ht]
theorem own_shape {base e sz g n cap m : Nat} {w : World} {L : List Value} (h : w.ownsRow base e sz (.slice (some ⟨g, 0, none⟩) n cap) m L) : w.shape? g = some (e, cap * sz) := by
  obtain ⟨h1, h2 | ⟨g', cap', cur, he, hb, hh, hn, hc, hs, ht⟩⟩ := h
  · cases h2.1
  · obtain ⟨e1, -, rfl⟩ := Value.slice.inj he
    obtain ⟨rfl, -, -⟩ := Addr.mk.inj (Option.some.inj e1)
    simp [World.shape?, hh, hs]
theorem infoSz : (Try.prog.info? 35).map (·.size) = some 3 := by
  obtain ⟨i0, hi, h0, h1, h2⟩ := info_parts infoEn
  rw [hi]; simp [h1]
theorem szEn : ∀ w, (Go.sizeOf 35).run Try.prog w = .ok 3 w := fun w => by kernel_rfl
set_option maxRecDepth 1000000 in
set_option maxHeartbeats 4000000 in
/-- In place. -/
theorem insert_shift {base : Nat} (xs : List En) (e : En) (g n cap k vb : Nat) (w : World) (hn : xs.length = n) (h : OwnEn base w (.slice (some ⟨g, 0, none⟩) n cap) xs) (hk : k < n) (hroom : n + 1 ≤ cap) (hne : vb ≠ g)
    (hvs : CellsAt w vb 0 (En.enc e)) (hsv : w.shape? vb = some (35, 3)) (hfv : ∀ j, w.frozen? ⟨vb, j, none⟩ = false) (hbase : base ≤ w.heap.size) :
    Calls Try.prog 60 #[.slice (some ⟨g, 0, none⟩) n cap, .int .i64 k, .slice (some ⟨vb, 0, none⟩) 1 1] w fun e' w' => ∃ v', e' = .returned v' ∧ OwnEn base w' v' (xs.take k ++ [e] ++ xs.drop k) ∧ Below base w w' := by
  have hlen : ∀ ys : List En, (ys.flatMap En.enc).length = ys.length * 3 := fun ys => length_flatMap (sz := 3) (enc := En.enc) (fun _ => rfl) ys
  have hd : w.drew.ownsRow base 35 3 (.slice (some ⟨g, 0, none⟩) n cap) n (xs.flatMap En.enc) := by have := h; unfold OwnEn OwnSl at this; rwa [hn] at this
  have hcm : cap ≤ maxLen := by
    rcases OwnSl.form h with ⟨h0, _⟩ | ⟨g', cp, h0, _, _, h1, h2, _⟩
    · cases h0
    · obtain ⟨_, _, rfl⟩ := Value.slice.inj h0; exact h2
  unfold maxLen at hcm
  obtain ⟨Z, hZ, hL⟩ := ownsRow_long hd hroom
  obtain ⟨B, hB⟩ : ∃ B, B = (xs.drop k).flatMap En.enc := ⟨_, rfl⟩
  obtain ⟨A, hA⟩ : ∃ A, A = (xs.take k).flatMap En.enc := ⟨_, rfl⟩
  have hAB : xs.flatMap En.enc = A ++ B := by rw [hA, hB, ← List.flatMap_append, List.take_append_drop]
  have hAl : A.length = k * 3 := by rw [hA, hlen, List.length_take, Nat.min_eq_left (by omega)]
  have hBl : B.length = (n - k) * 3 := by rw [hB, hlen, List.length_drop, hn]
  have h1B : ∀ v ∈ B, v.oneCell' = true := by rw [hB]; exact en_one _
  have h1E : ∀ v ∈ En.enc e, v.oneCell' = true := by intro v hv; simp only [En.enc, List.mem_cons, List.not_mem_nil, or_false] at hv; rcases hv with rfl | rfl | rfl <;> simp [Value.oneCell']
  rw [hAB] at hL hd
  have hshg : w.shape? g = some (35, cap * 3) := own_shape hd
  have hcell : ∀ j u, (A ++ B ++ Z)[j]? = some u → w.drew.cell? ⟨g, j, none⟩ = some u := by
    intro j u hu
    obtain ⟨h1, h2 | ⟨g', cap', cur, he, hb, hh, hnn, hc, hs, ht⟩⟩ := hL
    · cases h2.1
    · obtain ⟨e1, -, rfl⟩ := Value.slice.inj he
      obtain ⟨rfl, -, -⟩ := Addr.mk.inj (Option.some.inj e1)
      rw [← ht] at hu
      have hlt := (List.getElem?_eq_some_iff.1 hu).1
      rw [List.length_take] at hlt
      rw [List.getElem?_take_of_lt (by omega)] at hu
      simp only [World.cell?, hh]
      simpa using hu
  have hfz : ∀ o, w.drew.frozen? ⟨g, o, none⟩ = false := fun o => World.ownsRow.frozenAt hL o
  have hABZ : (A ++ B ++ Z).length = (n + 1) * 3 := by simp [hAl, hBl, hZ]; omega
  have hthere : ∀ j, j < (n + 1) * 3 → (w.drew.cell? ⟨g, j, none⟩).isSome = true := fun j hj => by
    rw [hcell j _ (List.getElem?_eq_getElem (by omega))]; rfl
  have hsrcB : ∀ j u, B[j]? = some u → w.drew.cell? ⟨g, k * 3 + j, none⟩ = some u := fun j u hu => hcell _ _ (by
    rw [List.append_assoc, List.getElem?_append_right (by omega), hAl, show k * 3 + j - k * 3 = j by omega, List.getElem?_append_left (List.getElem?_eq_some_iff.1 hu).1]; exact hu)
  have hov : ∀ vc lb cb, (callFunc 70 #[.slice (some ⟨vb, 0, none⟩) 1 vc, .slice (some ⟨g, (k + 1) * 3, none⟩) lb cb]).run Try.prog w = .ok (.value (.bool false)) w := fun vc lb cb => by
    rw [run_callFunc_extern Try.func70 (by kernel_rfl) (by kernel_rfl) (by kernel_rfl) (e := Extern.SlicesOverlaps.overlaps #[25, 25] #[4]) (by kernel_rfl),
      Lib.run_overlaps_apart w 25 4 35 Try.underlying25 3 szEn ⟨vb, 0, none⟩ ⟨g, (k + 1) * 3, none⟩ 1 vc lb cb hne 35 35 3 (cap * 3) hsv hshg (by omega) (hfv _) (hfv _)]
    rfl
  have hcp1 : ∀ ty dc sc, (Builtin.copy_ #[25, 25] ty #[.slice (some ⟨g, (k + 1) * 3, none⟩) (n - k) dc, .slice (some ⟨g, k * 3, none⟩) (n + 1 - k) sc]).run Try.prog w.drew = .ok (goInt (Nat.min (n + 1 - k) (n - k))) (w.drew.setCells g ((k + 1) * 3) B) := fun ty dc sc =>
    run_copy_flat 3 w.drew _ _ ty 35 g ((k + 1) * 3) (n - k) dc ⟨g, k * 3, none⟩ (n + 1 - k) sc B Try.underlying25 infoSz (by rw [hBl]; simp only [Nat.min_def]; split <;> omega)
      (fun j v hj => by rw [Addr.add_lit]; exact hsrcB j v hj)
      (fun j hj => hthere _ (by omega)) (fun j hj => hfz _) h1B
  obtain ⟨W1, hW1⟩ : ∃ W1, W1 = w.drew.setCells g ((k + 1) * 3) B := ⟨_, rfl⟩
  have hsp1 : ∀ j, j < (n + 1) * 3 → (W1.cell? ⟨g, j, none⟩).isSome = true := fun j hj => by
    rw [hW1]; exact World.isSome_setCells g B _ _ _ (hthere j hj)
  have hcp2 : ∀ (W : World), (∀ x, W.cell? x = W1.cell? x) → (∀ x, W.frozen? x = W1.frozen? x) → ∀ ty dc vc, (Builtin.copy_ #[25, 25] ty #[.slice (some ⟨g, k * 3, none⟩) (n + 1 - k) dc, .slice (some ⟨vb, 0, none⟩) 1 vc]).run Try.prog W = .ok (goInt (Nat.min 1 (n + 1 - k))) (W.setCells g (k * 3) (En.enc e)) := fun W hWc hWf ty dc vc =>
    run_copy_flat 3 W _ _ ty 35 g (k * 3) (n + 1 - k) dc ⟨vb, 0, none⟩ 1 vc (En.enc e) Try.underlying25 infoSz (by simp only [Nat.min_def, En.enc, List.length_cons, List.length_nil]; split <;> omega)
      (fun j v hj => by
        rw [Addr.add_lit, hWc, hW1, World.cell?_setCells_out g _ _ _ _ (fun h _ => absurd h hne)]
        exact hvs j v hj)
      (fun j hj => by rw [hWc]; exact hsp1 _ (by simp only [En.enc, List.length_cons, List.length_nil] at hj; omega)) (fun j hj => by rw [hWf, hW1, World.frozen?_setCells]; exact hfz _) h1E
  rw [← hW1] at hcp1
  have hown1 := owns_wSet B ((k + 1) * 3) w.drew _ hL
  rw [← setCells_wSet, ← hW1] at hown1
  have hown2 := owns_wSet (En.enc e) (k * 3) W1 _ hown1.1
  rw [← setCells_wSet] at hown2
  have hins := ins_cells A B Z (En.enc e) (by rw [hZ]; rfl)
  rw [show A.length + (En.enc e).length = (k + 1) * 3 by rw [hAl]; simp only [En.enc, List.length_cons, List.length_nil]; omega, hAl] at hins
  rw [hins] at hown2
  have HFIN : Hid (OwnEn base (W1.setCells g (k * 3) (En.enc e)) (.slice (some ⟨g, 0, none⟩) (n + 1) cap) (xs.take k ++ [e] ++ xs.drop k)) := by
    unfold OwnEn OwnSl
    have e1 : (xs.take k ++ [e] ++ xs.drop k).length = n + 1 := by simp [hn]; omega
    have e2 : (xs.take k ++ [e] ++ xs.drop k).flatMap En.enc = A ++ En.enc e ++ B := by rw [hA, hB]; simp [List.flatMap_append]
    rw [e1, e2]
    exact hown2.1
  have hb1 : Below base w W1 := belGrown (w0 := w.drew) ⟨rfl, rfl, rfl, Nat.le_refl _, fun _ _ => rfl⟩ hL hown1.2 hbase
  have HBL := Lib.hid (belGrown hb1 hown1.1 hown2.2 (Nat.le_trans hbase hb1.size))
  have mixed : Try.prog.follows Departure.mixedOrders = true := by kernel_rfl
  have t3 := Try.underlying3
  have t25 := Try.underlying25
  have u25 := run_underlying Try.underlying25
  have hz2 : ¬ ((k : Int) = (n : Int)) := by omega
  have hw1 : IntKind.i64.wrap ((k : Int) + 1) = (k : Int) + 1 := by rw [IntKind.wrap_i64]; omega
  have hb2 : ¬ (cap = k + 1) := by omega
  have hb4 : ¬ (cap = k) := by omega
  have hb1' : (0 : Int) ≤ (k : Int) + 1 := by omega
  have hb3 : (k : Int) ≤ (n : Int) + 1 := by omega
  have htn : ((k : Int) + 1).toNat = k + 1 := by omega
  have hin : k ≤ n := by omega
  obtain ⟨i0, hi0, hy0, hz1, hy2⟩ := info_parts infoEn
  clear h hd hL hcell hthere hsrcB hsp1 hown1 hown2 hins hb1 hABZ hAB hlen hfz hshg hA hB hW1
  go_enter Try.func60, Try.ntmps60
  go_wp2_with (simp only [hov])
  go_region_law (refine step_copy_run rfl _ _ 25 25 rfl _ _ (by simp [Act.eval, Act.put]) (by simp [Act.eval, Act.put]) (hcp1 _ _ _) ?_)
  go_wp2_with (at_builtin; refine wpList_copy_run _ rfl _ _ 25 25 rfl _ _ rfl rfl (hcp2 _ (fun _ => rfl) (fun _ => rfl) _ _ _) ?_)
  go_ret
  exact ⟨_, rfl, HFIN.out, HBL.out⟩
set_option maxRecDepth 1000000 in
set_option maxHeartbeats 4000000 in
/-- At the end. -/
theorem insert_end {base : Nat} (xs : List En) (e : En) (v : Value) (n vb : Nat) (w : World) (hn : xs.length = n) (h : OwnEn base w v xs) (hl : n ≤ 1000)
    (hvs : CellsAt w vb 0 (En.enc e)) (hbase : base ≤ w.heap.size) :
    Calls Try.prog 60 #[v, .int .i64 n, .slice (some ⟨vb, 0, none⟩) 1 1] w fun e' w' => ∃ v', e' = .returned v' ∧ OwnEn base w' v' (xs ++ [e]) ∧ Below base w w' := by
  obtain ⟨i0, hi, hy0, hy1, hy2⟩ := info_parts infoEn
  obtain ⟨g5, cap5, w5, hrun, hown5, hgr5, _, _⟩ := run_append_lies (P := Try.prog) (w := w) 25 25 base 35 i0 _ 3 24 Try.underlying25 hi hy0 hy1 hy2 rfl (by decide) v xs.length _ h ⟨vb, 0, none⟩ 1 1 (En.enc e) rfl (fun j c hj => by rw [Addr.add_lit]; exact hvs j c hj) (by simp [Value.oneCell']) (by omega) (by rw [hn]; simp only [maxLen]; omega) (by omega) hbase w.heap.size rfl
  have HO := Lib.hid (show OwnEn base w5 (.slice (some ⟨g5, 0, none⟩) (xs.length + 1) cap5) (xs ++ [e]) from OwnSl.pushed rfl hown5)
  have HB : Hid (Below base w w5) := belGrown (Below.refl _ _) h hgr5 hbase
  have t3 := Try.underlying3
  rcases OwnSl.form h with ⟨rfl, rfl⟩ | ⟨g, cap, rfl, hg, hgs, hlc, hcm, -⟩
  · simp only [List.length_nil] at hn
    subst hn
    clear h hgr5 hown5
    go_enter Try.func60, Try.ntmps60
    go_wp2_with (at_builtin; refine wpList_append_run rfl _ _ 25 rfl rfl rfl hrun ?_)
    go_ret
    exact ⟨_, rfl, HO.out, HB.out⟩
  · unfold maxLen at hcm
    rw [hn] at hrun HO hlc ⊢
    clear h hgr5 hown5
    go_enter Try.func60, Try.ntmps60
    go_wp2_with (at_builtin; refine wpList_append_run rfl _ _ 25 rfl rfl rfl hrun ?_)
    all_goals
      go_ret
      exact ⟨_, rfl, HO.out, HB.out⟩
/-- The cells behind an insertion in a new row. -/
theorem ins_cells2 (A B Z E : List Value) (hZ : Z.length = E.length + B.length) : setAll (setAll (A ++ Z) A.length E) (A.length + E.length) B = A ++ E ++ B := by
  have h1 := setAll_append_right A Z E 0
  rw [Nat.add_zero] at h1
  have h2 := setAll_head (Z.take E.length) (Z.drop E.length) E (by simp; omega)
  rw [List.take_append_drop] at h2
  rw [h1, h2, ← List.append_assoc]
  have h3 := setAll_append_right (A ++ E) (Z.drop E.length) B 0
  rw [Nat.add_zero, List.length_append] at h3
  rw [h3]
  have h4 := setAll_head (Z.drop E.length) [] B (by simp; omega)
  simp only [List.append_nil] at h4
  rw [h4]
set_option maxRecDepth 1000000 in
set_option maxHeartbeats 4000000 in
/-- Without room: a new row. -/
theorem insert_grow {base : Nat} (xs : List En) (e : En) (g n cap k vb : Nat) (w : World) (hn : xs.length = n) (h : OwnEn base w (.slice (some ⟨g, 0, none⟩) n cap) xs) (hk : k < n) (hroom : cap < n + 1) (hl : n ≤ 1000)
    (hvs : CellsAt w vb 0 (En.enc e)) (hvw : vb < w.heap.size) (hbase : base ≤ w.heap.size) :
    Calls Try.prog 60 #[.slice (some ⟨g, 0, none⟩) n cap, .int .i64 k, .slice (some ⟨vb, 0, none⟩) 1 1] w fun e' w' => ∃ v', e' = .returned v' ∧ OwnEn base w' v' (xs.take k ++ [e] ++ xs.drop k) ∧ Below base w w' := by
  have hlen : ∀ ys : List En, (ys.flatMap En.enc).length = ys.length * 3 := fun ys => length_flatMap (sz := 3) (enc := En.enc) (fun _ => rfl) ys
  obtain ⟨hnc, hgw⟩ : n ≤ cap ∧ g < w.heap.size := by
    rcases OwnSl.form h with ⟨h0, _⟩ | ⟨g', cp, h0, _, h3, h1, h2, _⟩
    · cases h0
    · obtain ⟨e1, _, rfl⟩ := Value.slice.inj h0
      obtain ⟨rfl, -, -⟩ := Addr.mk.inj (Option.some.inj e1)
      exact ⟨by omega, h3⟩
  obtain ⟨B, hB⟩ : ∃ B, B = (xs.drop k).flatMap En.enc := ⟨_, rfl⟩
  obtain ⟨A, hA⟩ : ∃ A, A = (xs.take k).flatMap En.enc := ⟨_, rfl⟩
  have hAB : xs.flatMap En.enc = A ++ B := by rw [hA, hB, ← List.flatMap_append, List.take_append_drop]
  have hAl : A.length = k * 3 := by rw [hA, hlen, List.length_take, Nat.min_eq_left (by omega)]
  have hBl : B.length = (n - k) * 3 := by rw [hB, hlen, List.length_drop, hn]
  have h1B : ∀ v ∈ B, v.oneCell' = true := by rw [hB]; exact en_one _
  have h1E : ∀ v ∈ En.enc e, v.oneCell' = true := by intro v hv; simp only [En.enc, List.mem_cons, List.not_mem_nil, or_false] at hv; rcases hv with rfl | rfl | rfl <;> simp [Value.oneCell']
  have hcell : ∀ j u, (A ++ B)[j]? = some u → w.cell? ⟨g, j, none⟩ = some u := by
    intro j u hu
    rw [← hAB] at hu
    have := (SlAt.flat (sz := 3) (enc := En.enc) (by omega) (fun _ => rfl) (hn ▸ OwnEn.ens h : SlAt 3 En.enc w (.slice (some ⟨g, 0, none⟩) xs.length cap) xs)) j u hu
    rwa [Addr.add_lit, Nat.zero_add] at this
  have hsrcB : ∀ j u, B[j]? = some u → w.cell? ⟨g, k * 3 + j, none⟩ = some u := fun j u hu => hcell _ _ (by
    rw [List.getElem?_append_right (by omega), hAl, show k * 3 + j - k * 3 = j by omega]; exact hu)
  obtain ⟨i0, hi0, hz0, hzs, hzb⟩ := info_parts infoEn
  have hkk : (n : Int) + 1 - (k : Int) = ((n + 1 - k : Nat) : Int) := by omega
  have hik : k + (n + 1 - k) = n + 1 := by omega
  have hold : (Builtin.firstCells i0.size k (.slice (some ⟨g, 0, none⟩) k cap)).run Try.prog w.drew = .ok A.toArray w.drew := by
    rw [hzs]
    exact run_firstCells_some w.drew 3 k ⟨g, 0, none⟩ k cap A hAl (fun j v hj => by
      rw [Addr.add_lit, Nat.zero_add]
      exact hcell j v (by rw [List.getElem?_append_left (List.getElem?_eq_some_iff.1 hj).1]; exact hj))
  obtain ⟨zc, hzc⟩ : ∃ zc, zc = (Value.agg #[.int .i64 0, .int .i64 0, .int .i64 0]).cells := ⟨_, rfl⟩
  have hzl : zc.size = 3 := by rw [hzc]; rfl
  have hrz : ∀ ty, (Builtin.append_ #[25, 3] ty #[.slice (some ⟨g, 0, none⟩) k cap, .int .i64 ((n : Int) + 1 - (k : Int))]).run Try.prog w =
      .ok (.slice (some ⟨w.heap.size, 0, none⟩) (n + 1) (grownCap w (n + 1) cap 35)) (w.drew.alloc (.cells (A.toArray ++ Builtin.zeroCells zc (n + 1 - k) ++ Builtin.zeroCells zc (grownCap w (n + 1) cap 35 - (n + 1))) 35)) := fun ty => by
    have h := Lib.run_append_grow_zeros w 25 3 ty 35 i0 _ .i64 .i64 Try.underlying25 Try.underlying3 hi0 hz0 (some ⟨g, 0, none⟩) k cap A hold (n + 1 - k) (by omega) (by omega) (by omega) (by omega) (by rw [hzb]; omega) (by rw [hzb, hik]; exact growslice_fits hroom (by omega))
    rw [hik] at h
    rw [hkk, hzc]
    exact h
  obtain ⟨G, hG⟩ : ∃ G, G = grownCap w (n + 1) cap 35 := ⟨_, rfl⟩
  obtain ⟨ROW, hROW⟩ : ∃ ROW : Array Value, ROW = A.toArray ++ Builtin.zeroCells zc (n + 1 - k) ++ Builtin.zeroCells zc (G - (n + 1)) := ⟨_, rfl⟩
  rw [← hG] at hrz
  rw [← hROW] at hrz
  have hGn : n + 1 ≤ G := by rw [hG]; exact grownCap_ge w _ _ _
  have hGm : G ≤ maxLen := by
    have := grownCap_le_maxLen w (n + 1) cap 35 (by unfold maxLen; omega)
    rwa [← hG] at this
  have hzcl : ∀ m, (Builtin.zeroCells zc m).size = m * 3 := fun m => by rw [hzc]; simp [Builtin.zeroCells, Value.cells]; try omega
  have hRs : ROW.size = G * 3 := by
    rw [hROW]
    simp [hzcl, hAl]
    omega
  have hRt : ROW.toList.take ((n + 1) * 3) = A ++ (Builtin.zeroCells zc (n + 1 - k)).toList := by
    rw [hROW]
    simp only [Array.toList_append]
    rw [List.take_append_of_le_length (by simp [hzcl, hAl]; omega), List.take_of_length_le (by simp [hzcl, hAl]; omega)]
  obtain ⟨W1, hW1⟩ : ∃ W1, W1 = w.drew.alloc (.cells ROW 35) := ⟨_, rfl⟩
  rw [← hW1] at hrz
  have hown0 : W1.ownsRow base 35 3 (.slice (some ⟨w.heap.size, 0, none⟩) (n + 1) G) (n + 1) (A ++ (Builtin.zeroCells zc (n + 1 - k)).toList) := by
    refine ⟨by simp [hzcl, hAl]; omega, .inr ⟨w.heap.size, G, ROW, rfl, hbase, by rw [hW1]; exact heap_alloc_new w.drew _, hGn, hGm, hRs, hRt⟩⟩
  have hown1 := owns_wSet (En.enc e) (k * 3) W1 _ hown0
  rw [← setCells_wSet] at hown1
  have hown2 := owns_wSet B ((k + 1) * 3) _ _ hown1.1
  rw [← setCells_wSet] at hown2
  have hins := ins_cells2 A B (Builtin.zeroCells zc (n + 1 - k)).toList (En.enc e) (by simp [hzcl, hBl]; omega)
  rw [show A.length + (En.enc e).length = (k + 1) * 3 by rw [hAl]; simp only [En.enc, List.length_cons, List.length_nil]; omega, hAl] at hins
  rw [hins] at hown2
  have hbW1 : Below base w W1 := by rw [hW1]; exact ((Below.refl _ _).drew).alloc hbase _
  have HFIN : Hid (OwnEn base ((W1.setCells w.heap.size (k * 3) (En.enc e)).setCells w.heap.size ((k + 1) * 3) B) (.slice (some ⟨w.heap.size, 0, none⟩) (n + 1) G) (xs.take k ++ [e] ++ xs.drop k)) := by
    unfold OwnEn OwnSl
    have e1 : (xs.take k ++ [e] ++ xs.drop k).length = n + 1 := by simp [hn]; omega
    have e2 : (xs.take k ++ [e] ++ xs.drop k).flatMap En.enc = A ++ En.enc e ++ B := by rw [hA, hB]; simp [List.flatMap_append]
    rw [e1, e2]
    exact hown2.1
  have hzW1 : w.heap.size ≤ W1.heap.size := by rw [hW1]; simp
  have hzW2 := hown1.2.size
  have HBL := Lib.hid (belGrown (belGrown hbW1 hown0 hown1.2 (by omega)) hown1.1 hown2.2 (by omega))
  have hN : ∀ j, j < (n + 1) * 3 → (W1.cell? ⟨w.heap.size, j, none⟩).isSome = true := fun j hj => by
    rw [hW1, World.cell?_alloc_at (w := w.drew) ROW _ w.heap.size j rfl, Array.getElem?_eq_getElem (by omega)]; rfl
  have hNf : ∀ j, W1.frozen? ⟨w.heap.size, j, none⟩ = false := fun j => by rw [hW1]; exact World.frozen?_alloc_at (w := w.drew) ROW _ w.heap.size j rfl
  have hOb : ∀ j v, w.cell? ⟨g, j, none⟩ = some v → W1.cell? ⟨g, j, none⟩ = some v := fun j v h => by rw [hW1, World.cell?_alloc_past (w := w.drew) _ g j hgw]; exact h
  have hOv : ∀ j v, w.cell? ⟨vb, j, none⟩ = some v → W1.cell? ⟨vb, j, none⟩ = some v := fun j v h => by rw [hW1, World.cell?_alloc_past (w := w.drew) _ vb j hvw]; exact h
  have hcpA : ∀ (W : World), (∀ x, W.cell? x = W1.cell? x) → (∀ x, W.frozen? x = W1.frozen? x) → ∀ ty dc vc, (Builtin.copy_ #[25, 25] ty #[.slice (some ⟨w.heap.size, k * 3, none⟩) (n + 1 - k) dc, .slice (some ⟨vb, 0, none⟩) 1 vc]).run Try.prog W = .ok (goInt (Nat.min 1 (n + 1 - k))) (W.setCells w.heap.size (k * 3) (En.enc e)) := fun W hWc hWf ty dc vc =>
    run_copy_flat 3 W _ _ ty 35 w.heap.size (k * 3) (n + 1 - k) dc ⟨vb, 0, none⟩ 1 vc (En.enc e) Try.underlying25 infoSz (by simp only [Nat.min_def, En.enc, List.length_cons, List.length_nil]; split <;> omega)
      (fun j v hj => by rw [Addr.add_lit, hWc]; exact hOv _ v (hvs j v hj))
      (fun j hj => by rw [hWc]; exact hN _ (by simp only [En.enc, List.length_cons, List.length_nil] at hj; omega)) (fun j hj => by rw [hWf]; exact hNf _) h1E
  have hgN : g ≠ w.heap.size := by omega
  have hcpB : ∀ (W : World), (∀ x, W.cell? x = (W1.setCells w.heap.size (k * 3) (En.enc e)).cell? x) → (∀ x, W.frozen? x = (W1.setCells w.heap.size (k * 3) (En.enc e)).frozen? x) → ∀ ty dc sc, (Builtin.copy_ #[25, 25] ty #[.slice (some ⟨w.heap.size, (k + 1) * 3, none⟩) (n - k) dc, .slice (some ⟨g, k * 3, none⟩) (n - k) sc]).run Try.prog W = .ok (goInt (Nat.min (n - k) (n - k))) (W.setCells w.heap.size ((k + 1) * 3) B) := fun W hWc hWf ty dc sc =>
    run_copy_flat 3 W _ _ ty 35 w.heap.size ((k + 1) * 3) (n - k) dc ⟨g, k * 3, none⟩ (n - k) sc B Try.underlying25 infoSz (by rw [hBl]; simp only [Nat.min_def]; split <;> omega)
      (fun j v hj => by
        rw [Addr.add_lit, hWc, World.cell?_setCells_out _ _ _ _ _ (fun h _ => absurd h hgN)]
        exact hOb _ v (hsrcB j v hj))
      (fun j hj => by rw [hWc]; exact World.isSome_setCells _ _ _ _ _ (hN _ (by omega)))
      (fun j hj => by rw [hWf, World.frozen?_setCells]; exact hNf _) h1B
  have hG63 : G ≤ 9223372036854775807 := by unfold maxLen at hGm; omega
  subst hW1
  have hE1 : ∀ x, ((w.alloc (.cells ROW 35)).drew).cell? x = (w.drew.alloc (.cells ROW 35)).cell? x := fun x => rfl
  have hE2 : ∀ x, ((w.alloc (.cells ROW 35)).drew).frozen? x = (w.drew.alloc (.cells ROW 35)).frozen? x := fun x => rfl
  have hF1 : ∀ x, (((w.alloc (.cells ROW 35)).drew.setCells w.heap.size (k * 3) (En.enc e)).drew).cell? x = ((w.drew.alloc (.cells ROW 35)).setCells w.heap.size (k * 3) (En.enc e)).cell? x := fun x => by rw [setCells_wSet, setCells_wSet]; rfl
  have hF2 : ∀ x, (((w.alloc (.cells ROW 35)).drew.setCells w.heap.size (k * 3) (En.enc e)).drew).frozen? x = ((w.drew.alloc (.cells ROW 35)).setCells w.heap.size (k * 3) (En.enc e)).frozen? x := fun x => by rw [setCells_wSet, setCells_wSet]; rfl
  have mixed : Try.prog.follows Departure.mixedOrders = true := by kernel_rfl
  have t3 := Try.underlying3
  have t25 := Try.underlying25
  have u25 := run_underlying Try.underlying25
  have hz2 : ¬ ((k : Int) = (n : Int)) := by omega
  have hz3 : (cap : Int) < (n : Int) + 1 := by omega
  have hw1 : IntKind.i64.wrap ((k : Int) + 1) = (k : Int) + 1 := by rw [IntKind.wrap_i64]; omega
  have hGi : ¬ (G = k) := by omega
  have hGim : ¬ (G = k + 1) := by omega
  have hci : ¬ (cap = k) := by omega
  have hb1' : (0 : Int) ≤ (k : Int) + 1 := by omega
  have hb3 : (k : Int) ≤ (n : Int) := by omega
  have htn : ((k : Int) + 1).toNat = k + 1 := by omega
  have hin : k ≤ n := by omega
  clear h hkk hik hold hROW hG hAB hlen hcell hsrcB hown0 hown1 hown2 hins hbW1 hRs hRt hzcl hA hB hzc hzW1 hzW2 hN hNf hOb hOv
  go_enter Try.func60, Try.ntmps60
  go_wp2_with (first
    | (at_builtin; refine Lib.wpList_append_run _ rfl _ _ _ _ rfl _ _ rfl rfl _ _ (hrz _) ?_)
    | (at_builtin; refine wpList_copy_run _ rfl _ _ 25 25 rfl _ _ rfl rfl (hcpA _ hE1 hE2 _ _ _) ?_)
    | (at_builtin; refine wpList_copy_run _ rfl _ _ 25 25 rfl _ _ rfl rfl (hcpB _ (fun _ => rfl) (fun _ => rfl) _ _ _) ?_))
  go_region_law (refine step_copy_run rfl _ _ 25 25 rfl (.slice (some ⟨w.heap.size, (k + 1) * 3, none⟩) (n - k) (G - (k + 1))) (.slice (some ⟨g, k * 3, none⟩) (n - k) (cap - k)) (by simp [Act.eval, Act.put]) (by simp [Act.eval, Act.put]) (hcpB _ hF1 hF2 _ _ _) ?_)
  go_wp2
  go_ret
  rw [← drew_setCells']
  exact ⟨_, rfl, HFIN.out, HBL.out.drew⟩
/-- One entry is put into a slice of the call's own. -/
theorem insert_any {base : Nat} (xs : List En) (e : En) (v : Value) (k vb : Nat) (w : World) (h : OwnEn base w v xs) (hk : k ≤ xs.length) (hl : xs.length ≤ 1000)
    (hvs : CellsAt w vb 0 (En.enc e)) (hsv : w.shape? vb = some (35, 3)) (hfv : ∀ j, w.frozen? ⟨vb, j, none⟩ = false) (hne : v.ownBlock ≠ some vb) (hbase : base ≤ w.heap.size) :
    Calls Try.prog 60 #[v, .int .i64 k, .slice (some ⟨vb, 0, none⟩) 1 1] w fun e' w' => ∃ v', e' = .returned v' ∧ OwnEn base w' v' (xs.take k ++ [e] ++ xs.drop k) ∧ Below base w w' := by
  by_cases hkn : k = xs.length
  · subst hkn
    rw [List.take_length, List.drop_length, List.append_nil]
    exact insert_end xs e v _ vb w rfl h hl hvs hbase
  · rcases OwnSl.form h with ⟨_, hx⟩ | ⟨g, cap, rfl, _, _, _, _, _⟩
    · rw [hx] at hk hkn; simp at hk; exact absurd hk hkn
    · have hgv : vb ≠ g := fun e => hne (by rw [e]; rfl)
      have hvw : vb < w.heap.size := by
        unfold World.shape? at hsv
        split at hsv
        · exact (Array.getElem?_eq_some_iff.1 (by assumption)).1
        · cases hsv
      by_cases hroom : xs.length + 1 ≤ cap
      · exact insert_shift xs e g _ cap k vb w rfl h (by omega) hroom hgv hvs hsv hfv hbase
      · exact insert_grow xs e g _ cap k vb w rfl h (by omega) (by omega) hl hvs hvw hbase
end Go.Proofs.Ytfnfpekjjmejnaa
