/- The program's callsIn, visitCalls, acyclic and RulesetValid. -/
import Derived.Test.YtfcbbahlhjdefaaDoorFnX
import Derived.Test.YtfcbbahlhjdefaaDoorCuW
import Derived.Test.YtfcbbahlhjdefaaDoorRdRs
import Derived.Test.YtfcbbahlhjdefaaDoorRsV
import Derived.Test.YtfcbbahlhjdefaaDoorRgX
/- Counts of hits: plain definitions and laws. -/
namespace Go.Proofs.YtfcbbahlhjdefaaDoor
open Go.RowKit
set_option maxRecDepth 20000
theorem infoInt : (Tryd.prog.info? 3).map (fun i => (i.zero, i.size, i.bytes)) = some (some (.int .i64 0), 1, 8) := by kernel_rfl
/-- Numbers. -/
abbrev encI (n : Int) : List Value := [.int .i64 n]
def Ins (w : World) (v : Value) (xs : List Int) : Prop := SlAt 1 encI w v xs
def OwnIn (base : Nat) (w : World) (v : Value) (ys : List Int) : Prop := OwnSl base 3 1 encI w v ys
theorem OwnIn.ins {base : Nat} {w : World} {v : Value} {ys : List Int} (h : OwnIn base w v ys) : Ins w v ys := OwnSl.at (sz := 1) (enc := encI) (fun _ => rfl) h
end Go.Proofs.YtfcbbahlhjdefaaDoor
/- Dead rules: both walks; lists of numbers in an interval of blocks. -/
namespace Go.Proofs.YtfcbbahlhjdefaaDoor
open Go.RowKit
end Go.Proofs.YtfcbbahlhjdefaaDoor
/- Rules without the dead ones: both walks. -/
namespace Go.Proofs.YtfcbbahlhjdefaaDoor
open Go.RowKit
theorem Ins.atI {w : World} {a : Option Addr} {n cap : Nat} {xs : List Int} (h : Ins w (.slice a n cap) xs) {k : Nat} {x : Int} (hk : xs[k]? = some x) : ∃ b o, a = some ⟨b, o, none⟩ ∧ b < w.heap.size ∧ w.cell? ⟨b, o + k, none⟩ = some (.int .i64 x) := by
  obtain ⟨a', cap', he, _, _, hx⟩ := h
  obtain ⟨rfl, _, _⟩ := Value.slice.inj he
  obtain ⟨b, o, ha, hb, hc⟩ := hx k x hk
  exact ⟨b, o, ha, hb, by simpa using hc 0 _ rfl⟩
theorem Ins.formI {w : World} {v : Value} {xs : List Int} (h : Ins w v xs) : ∃ a cap, v = .slice a xs.length cap ∧ xs.length ≤ cap ∧ cap ≤ maxLen := by
  obtain ⟨a, cap, he, h1, h2, _⟩ := h
  exact ⟨a, cap, he, h1, h2⟩
end Go.Proofs.YtfcbbahlhjdefaaDoor
namespace Go.Proofs.YtfcbbahlhjdefaaDoor
open Go.RowKit
theorem wp_index_run {P : Program} {o : Oper} {a : Act} {w : World} {K : Act → World → Prop} {Q : Exit → Act → World → Prop} (t : TypeId) (x i : Operand)
    (ho : o.op = .index t x i) {vx vi v : Value} (hx : a.eval x = vx) (hi : a.eval i = vi) (hr : (Instr.index t vx vi).run P w = .ok v w) (hk : K (a.put o.dst v) w) : o.wp P a w K Q := by
  unfold Oper.wp
  simp [execOp, ho, hx, hi, hr, Result.andThen]
  exact hk
theorem wpList_index_run {P : Program} {ops : Array Oper} {rest : List Oper} {o : Oper} {a : Act} {w : World} {Q : Exit → Act → World → Prop} (hgd : o.guard = none) (t : TypeId) (x i : Operand)
    (ho : o.op = .index t x i) {vx vi v : Value} (hx : a.eval x = vx) (hi : a.eval i = vi) (hr : (Instr.index t vx vi).run P w = .ok v w) (hk : wpList P ops Q rest (a.put o.dst v) w) : wpList P ops Q (o :: rest) a w :=
  wpList_plain hgd fun _ hK => wp_index_run t x i ho hx hi hr (hK _ _ hk)
/-- Does a rule of the list call chain c? -/
def cAt (l : List Ru) (c : Nat) : Bool := l.any (fun r => r.act == 3 && r.ch == (c : Int))
theorem cAt_succ {l : List Ru} {k c : Nat} {r : Ru} (h : l[k]? = some r) : cAt (l.take (k + 1)) c = (cAt (l.take k) c || (r.act == 3 && r.ch == (c : Int))) := by
  unfold cAt
  rw [List.take_add_one, h, Option.toList_some, List.any_append]
  simp
theorem ruok_call {ts : List Te} {a c : Int} (h : (⟨ts, a, c⟩ : Ru).ok = true) (ha : a = 3) : 0 ≤ c ∧ c < 5 := by
  rw [ruok_eq, ha, inB_and 3, inB_and c] at h
  simp at h
  omega
def clist (l : List Ru) (k : Nat) : List Int := ((List.range k).filter (fun c => cAt l c)).map (fun c : Nat => (c : Int))
theorem clist_succ (l : List Ru) (k : Nat) : clist l (k + 1) = clist l k ++ (if cAt l k then [(k : Int)] else []) := by
  unfold clist
  rw [List.range_succ, List.filter_append, List.map_append]
  cases h : cAt l k <;> simp [h]
theorem clist_len (l : List Ru) (k : Nat) : (clist l k).length ≤ k := by
  unfold clist
  rw [List.length_map]
  exact Nat.le_trans (List.length_filter_le _ _) (by simp)
set_option maxHeartbeats 4000000 in
set_option maxRecDepth 100000 in
theorem callsIn_any {lo : Nat} (xs : List Ru) (v : Value) (w : World) (hs : Rus lo w v xs) (ho : ∀ (k : Nat) r, xs[k]? = some r → r.ok = true) :
    Calls Tryd.prog 29 #[v] w fun e w' => ∃ v', e = .returned v' ∧ OwnIn w.heap.size w' v' ((calls xs).map (fun c : Nat => (c : Int))) ∧ Below w.heap.size w w' := by
  obtain ⟨a, cap, rfl, hlc, hcm⟩ := hs.form
  unfold maxLen at hcm
  generalize hn : xs.length = n at *
  have HN := Lib.hid hn
  have HS := Lib.hid hs
  have HK := Lib.hid ho
  obtain ⟨i0, hi, hy0, hy1, hy2⟩ := info_parts infoInt
  clear hn hs ho
  obtain ⟨W, hW⟩ : ∃ W, w.alloc (.cells #[.bool false, .bool false, .bool false, .bool false, .bool false] 109) = W := ⟨_, rfl⟩
  have hal : Below w.heap.size w W := by rw [← hW]; exact (Below.refl _ _).alloc (Nat.le_refl _) _
  have hl : w.heap.size < W.heap.size := by rw [← hW]; simp
  have HC0 := Lib.hid (show ∀ c, c < 5 → W.cell? ⟨w.heap.size, c, none⟩ = some (.bool (cAt (xs.take 0) c)) from fun c hc => by
    rw [← hW]
    match c, hc with
    | 0, _ => simp [cAt]
    | 1, _ => simp [cAt]
    | 2, _ => simp [cAt]
    | 3, _ => simp [cAt]
    | 4, _ => simp [cAt]
    | c + 5, h => omega)
  have HF0 := Lib.hid (show ∀ c, W.frozen? ⟨w.heap.size, c, none⟩ = false from fun c => by rw [← hW]; exact frz_new w _ _ c)
  go_enter Tryd.func29, Tryd.ntmps29
  go_wp2_with fail
  go_loopw [5, 11] (fun _ i wr => ∃ k : Nat, k ≤ n ∧ i = .int .i64 k ∧ Hid (∀ c, c < 5 → wr.cell? ⟨w.heap.size, c, none⟩ = some (.bool (cAt (xs.take k) c))) ∧ Hid (∀ c, wr.frozen? ⟨w.heap.size, c, none⟩ = false) ∧ w.heap.size < wr.heap.size ∧ Below w.heap.size w wr) (fun _ i _ => n - (intOf i).toNat)
  case atStart => exact ⟨0, by omega, rfl, HC0, HF0, hl, hal⟩
  case round =>
    obtain ⟨k, hk, rfl, HC, HF, hlr, hbr⟩ := hrel
    clear HC0 HF0 hal hl hW
    have hzr := hbr.size
    by_cases hlt : k < n
    · have i1 : (k : Int) < (n : Int) := by omega
      have i2 : (0 : Int) ≤ (k : Int) := by omega
      obtain ⟨⟨ts, ra, rc⟩, hx⟩ : ∃ x, xs[k]? = some x := ⟨_, List.getElem?_eq_getElem (by rw [HN.out]; exact hlt)⟩
      obtain ⟨b, o, sv, rfl, hbl, c0, c1, c2, hsv⟩ := (HS.out.below hbr).at hx
      obtain ⟨sa, sc, rfl, -, -⟩ := hsv.form
      simp only at c0 c1 c2
      have HXX := Lib.hid hx
      have HO := Lib.hid (HK.out k _ hx)
      have hal : Below wr.heap.size wr (wr.alloc (.cells #[.slice sa ts.length sc, .int .i64 ra, .int .i64 rc] 34)) := (Below.refl _ _).alloc (Nat.le_refl _) _
      generalize ts.length = tl at *
      clear hsv hx
      by_cases h3 : ra = 3
      · subst h3
        obtain ⟨p0, p1⟩ := ruok_call HO.out rfl
        obtain ⟨j, rfl⟩ := Int.eq_ofNat_of_zero_le p0
        have hj5 : j < 5 := by omega
        obtain ⟨W4, hW4⟩ : ∃ W4, wr.alloc (.cells #[.slice sa tl sc, .int .i64 3, .int .i64 (j : Int)] 34) = W4 := ⟨_, rfl⟩
        rw [hW4] at hal
        have hz4 := hal.size
        have dj := (hal.cell (p := ⟨w.heap.size, j, none⟩) hlr).trans (HC.out j hj5)
        have fj := (hal.frozen (p := ⟨w.heap.size, j, none⟩) hlr).trans (HF.out j)
        have hwx : Below w.heap.size w (W4.setCell ⟨w.heap.size, j, none⟩ (.bool true)) := (hbr.trans (hal.mono hzr)).setCell (by simp) _
        have HC2 := Lib.hid (show ∀ c, c < 5 → (W4.setCell ⟨w.heap.size, j, none⟩ (.bool true)).cell? ⟨w.heap.size, c, none⟩ = some (.bool (cAt (xs.take (k + 1)) c)) from fun c hc => by
          rw [cAt_succ HXX.out]
          by_cases e : j = c
          · subst e
            rw [World.cell?_setCell_same' _ _ _ (by rw [dj]; rfl)]
            simp
          · rw [World.cell?_setCell_other _ _ _ _ (by simp), (hal.cell (p := ⟨w.heap.size, c, none⟩) hlr).trans (HC.out c hc)]
            have : ((j : Int) == (c : Int)) = false := by simp; omega
            simp [this])
        have HF2 := Lib.hid (show ∀ c, (W4.setCell ⟨w.heap.size, j, none⟩ (.bool true)).frozen? ⟨w.heap.size, c, none⟩ = false from fun c => by rw [World.frozen?_setCell]; exact (hal.frozen (p := ⟨w.heap.size, c, none⟩) hlr).trans (HF.out c))
        have hl4 : w.heap.size < (W4.setCell ⟨w.heap.size, j, none⟩ (.bool true)).heap.size := by simp; omega
        have hl4' : w.heap.size < W4.heap.size := by omega
        have e1 : W4.cell? ⟨wr.heap.size, 1, none⟩ = some (.int .i64 3) := by rw [← hW4]; simp
        have e2 : W4.cell? ⟨wr.heap.size, 2, none⟩ = some (.int .i64 (j : Int)) := by rw [← hW4]; simp
        go_wp2
        go_roundw
        case rel => exact ⟨k + 1, by omega, by go_num, HC2, HF2, hl4, hwx⟩
        case measure => simp [intOf]; omega
      · have h3b : (ra == 3) = false := by simpa using h3
        have HC2 := Lib.hid (show ∀ c, c < 5 → (wr.alloc (.cells #[.slice sa tl sc, .int .i64 ra, .int .i64 rc] 34)).cell? ⟨w.heap.size, c, none⟩ = some (.bool (cAt (xs.take (k + 1)) c)) from fun c hc => by
          rw [(hal.cell (p := ⟨w.heap.size, c, none⟩) hlr).trans (HC.out c hc), cAt_succ HXX.out]
          simp [h3b])
        have HF2 := Lib.hid (show ∀ c, (wr.alloc (.cells #[.slice sa tl sc, .int .i64 ra, .int .i64 rc] 34)).frozen? ⟨w.heap.size, c, none⟩ = false from fun c => (hal.frozen (p := ⟨w.heap.size, c, none⟩) hlr).trans (HF.out c))
        have hwx := hbr.trans (hal.mono hzr)
        have hl4 : w.heap.size < (wr.alloc (.cells #[.slice sa tl sc, .int .i64 ra, .int .i64 rc] 34)).heap.size := by simp; omega
        go_wp2
        go_roundw
        case rel => exact ⟨k + 1, by omega, by go_num, HC2, HF2, hl4, hwx⟩
        case measure => simp [intOf]; omega
    · have hkn : k = n := by omega
      subst hkn
      have HTK := Lib.hid (show xs.take k = xs by rw [List.take_of_length_le (by rw [HN.out]; omega)])
      rw [HTK.out] at HC
      have c0 := HC.out 0 (by omega)
      have c1 := HC.out 1 (by omega)
      have c2 := HC.out 2 (by omega)
      have c3 := HC.out 3 (by omega)
      have c4 := HC.out 4 (by omega)
      obtain ⟨b0, hb0⟩ : ∃ b, cAt xs 0 = b := ⟨_, rfl⟩
      obtain ⟨b1, hb1⟩ : ∃ b, cAt xs 1 = b := ⟨_, rfl⟩
      obtain ⟨b2, hb2⟩ : ∃ b, cAt xs 2 = b := ⟨_, rfl⟩
      obtain ⟨b3, hb3⟩ : ∃ b, cAt xs 3 = b := ⟨_, rfl⟩
      obtain ⟨b4, hb4⟩ : ∃ b, cAt xs 4 = b := ⟨_, rfl⟩
      rw [hb0] at c0
      rw [hb1] at c1
      rw [hb2] at c2
      rw [hb3] at c3
      rw [hb4] at c4
      have HB := Lib.hid (And.intro hb0 (And.intro hb1 (And.intro hb2 (And.intro hb3 hb4))))
      clear hb0 hb1 hb2 hb3 hb4 HC HF
      obtain ⟨W0, hW0⟩ : ∃ W0, W0 = wr := ⟨_, rfl⟩
      subst hW0
      go_wp2_with fail
      go_loopw [6, 7, 8, 23] (fun q _ _ i wr => ∃ k : Nat, k ≤ 5 ∧ i = .int .i64 k ∧ Hid (OwnIn W0.heap.size wr q (clist xs k)) ∧ Below W0.heap.size W0 wr) (fun _ _ _ i _ => 5 - (intOf i).toNat)
      case atStart => exact ⟨0, by omega, rfl, Lib.hid (show OwnIn W0.heap.size W0 (.slice none 0 0) [] from OwnSl.nil _ _ _ _ _), Below.refl _ _⟩
      case round =>
        obtain ⟨m, hm, rfl, HO, hbs⟩ := hrel
        have hzs := hbs.size
        obtain ⟨oa, oc, hof⟩ : ∃ a c, u6 = .slice a (clist xs m).length c := by
          rcases OwnSl.form HO.out with ⟨h, h'⟩ | ⟨g, c, h, _⟩
          · exact ⟨_, _, by rw [h, h']; rfl⟩
          · exact ⟨_, _, h⟩
        subst hof
        by_cases hm5 : m < 5
        · have j1 : (m : Int) < 5 := by omega
          have j2 : (0 : Int) ≤ (m : Int) := by omega
          obtain ⟨bm, hbm⟩ : ∃ b, cAt xs m = b := ⟨_, rfl⟩
          have HBM := Lib.hid hbm
          have HCS := Lib.hid (clist_succ xs m)
          have hcl := clist_len xs m
          cases bm
          · have HO2 := Lib.hid (show OwnIn W0.heap.size wr (.slice oa (clist xs m).length oc) (clist xs (m + 1)) by rw [HCS.out, HBM.out]; simpa using HO.out)
            rcases (by omega : m = 0 ∨ m = 1 ∨ m = 2 ∨ m = 3 ∨ m = 4) with rfl | rfl | rfl | rfl | rfl
            · obtain rfl : b0 = false := HB.out.1.symm.trans hbm
              clear hbm
              have hx : ∀ w : World, (Instr.index 109 (.agg #[.bool false, .bool b1, .bool b2, .bool b3, .bool b4]) (.int .i64 ((0 : Nat) : Int))).run Tryd.prog w = .ok (.bool false) w := fun w => by kernel_rfl
              generalize (clist xs 0).length = cl at *
              go_wp2_with (refine wpList_index_run rfl 109 _ _ rfl rfl rfl (hx _) ?_)
              go_wp2
              go_roundw
              case rel => exact ⟨1, by omega, by go_num, HO2, hbs⟩
              case measure => simp [intOf]
            · obtain rfl : b1 = false := HB.out.2.1.symm.trans hbm
              clear hbm
              have hx : ∀ w : World, (Instr.index 109 (.agg #[.bool b0, .bool false, .bool b2, .bool b3, .bool b4]) (.int .i64 ((1 : Nat) : Int))).run Tryd.prog w = .ok (.bool false) w := fun w => by kernel_rfl
              generalize (clist xs 1).length = cl at *
              go_wp2_with (refine wpList_index_run rfl 109 _ _ rfl rfl rfl (hx _) ?_)
              go_wp2
              go_roundw
              case rel => exact ⟨2, by omega, by go_num, HO2, hbs⟩
              case measure => simp [intOf]
            · obtain rfl : b2 = false := HB.out.2.2.1.symm.trans hbm
              clear hbm
              have hx : ∀ w : World, (Instr.index 109 (.agg #[.bool b0, .bool b1, .bool false, .bool b3, .bool b4]) (.int .i64 ((2 : Nat) : Int))).run Tryd.prog w = .ok (.bool false) w := fun w => by kernel_rfl
              generalize (clist xs 2).length = cl at *
              go_wp2_with (refine wpList_index_run rfl 109 _ _ rfl rfl rfl (hx _) ?_)
              go_wp2
              go_roundw
              case rel => exact ⟨3, by omega, by go_num, HO2, hbs⟩
              case measure => simp [intOf]
            · obtain rfl : b3 = false := HB.out.2.2.2.1.symm.trans hbm
              clear hbm
              have hx : ∀ w : World, (Instr.index 109 (.agg #[.bool b0, .bool b1, .bool b2, .bool false, .bool b4]) (.int .i64 ((3 : Nat) : Int))).run Tryd.prog w = .ok (.bool false) w := fun w => by kernel_rfl
              generalize (clist xs 3).length = cl at *
              go_wp2_with (refine wpList_index_run rfl 109 _ _ rfl rfl rfl (hx _) ?_)
              go_wp2
              go_roundw
              case rel => exact ⟨4, by omega, by go_num, HO2, hbs⟩
              case measure => simp [intOf]
            · obtain rfl : b4 = false := HB.out.2.2.2.2.symm.trans hbm
              clear hbm
              have hx : ∀ w : World, (Instr.index 109 (.agg #[.bool b0, .bool b1, .bool b2, .bool b3, .bool false]) (.int .i64 ((4 : Nat) : Int))).run Tryd.prog w = .ok (.bool false) w := fun w => by kernel_rfl
              generalize (clist xs 4).length = cl at *
              go_wp2_with (refine wpList_index_run rfl 109 _ _ rfl rfl rfl (hx _) ?_)
              go_wp2
              go_roundw
              case rel => exact ⟨5, by omega, by go_num, HO2, hbs⟩
              case measure => simp [intOf]
          · obtain ⟨W5, hW5⟩ : ∃ W5, wr.alloc (.cells #[.int .i64 (m : Int)] 3) = W5 := ⟨_, rfl⟩
            have hal5 : Below wr.heap.size wr W5 := by rw [← hW5]; exact (Below.refl _ _).alloc (Nat.le_refl _) _
            have hlit : SlAt 1 encI W5 (.slice (some ⟨wr.heap.size, 0, none⟩) 1 1) [(m : Int)] := by
              rw [← hW5]
              refine ⟨_, 1, rfl, by simp, by simp [maxLen], fun k x hk => ?_⟩
              match k, hk with
              | 0, hk =>
                cases hk
                refine ⟨wr.heap.size, 0, rfl, by simp, fun j u hj => ?_⟩
                have := cellsNew wr (encI (m : Int)) 3 j u hj
                rwa [Addr.add_lit] at this
              | k + 1, hk => simp at hk
            obtain ⟨v', w', hrun, hown, hgr, hat⟩ := own_append_all (sz := 1) (enc := encI) (by omega) (fun _ => rfl) (P := Tryd.prog) (w := W5) 55 55 3 i0 _ 8 Tryd.underlying55 hi hy0 hy1 hy2 rfl (zs := [(m : Int)]) (by simp [Value.oneCell']) (OwnSl.kept HO.out hal5) hlit (by simp; omega) (by simp only [maxLen, List.length_singleton]; omega) (Nat.le_trans hzs hal5.size)
            have hwx : Below W0.heap.size W0 w' := (hbs.trans (hal5.mono hzs)).grown hgr (Nat.le_trans hzs hal5.size) (fun z hz => (World.ownsRow.lt HO.out z hz).1)
            have HO2 := Lib.hid (show OwnIn W0.heap.size w' v' (clist xs (m + 1)) by rw [HCS.out, HBM.out]; exact hown)
            clear hown hgr hat hlit
            rcases (by omega : m = 0 ∨ m = 1 ∨ m = 2 ∨ m = 3 ∨ m = 4) with rfl | rfl | rfl | rfl | rfl
            · obtain rfl : b0 = true := HB.out.1.symm.trans hbm
              clear hbm
              have hx : ∀ w : World, (Instr.index 109 (.agg #[.bool true, .bool b1, .bool b2, .bool b3, .bool b4]) (.int .i64 ((0 : Nat) : Int))).run Tryd.prog w = .ok (.bool true) w := fun w => by kernel_rfl
              rw [show (((0 : Nat) : Int)) = 0 from rfl] at hW5
              go_wp2_with (first | (refine wpList_index_run rfl 109 _ _ rfl rfl rfl (hx _) ?_) | (at_builtin; refine wpList_append_run rfl _ _ 55 rfl rfl rfl hrun ?_))
              go_wp2
              go_roundw
              case rel => exact ⟨1, by omega, by go_num, HO2, hwx⟩
              case measure => simp [intOf]
            · obtain rfl : b1 = true := HB.out.2.1.symm.trans hbm
              clear hbm
              have hx : ∀ w : World, (Instr.index 109 (.agg #[.bool b0, .bool true, .bool b2, .bool b3, .bool b4]) (.int .i64 ((1 : Nat) : Int))).run Tryd.prog w = .ok (.bool true) w := fun w => by kernel_rfl
              rw [show (((1 : Nat) : Int)) = 1 from rfl] at hW5
              go_wp2_with (first | (refine wpList_index_run rfl 109 _ _ rfl rfl rfl (hx _) ?_) | (at_builtin; refine wpList_append_run rfl _ _ 55 rfl rfl rfl hrun ?_))
              go_wp2
              go_roundw
              case rel => exact ⟨2, by omega, by go_num, HO2, hwx⟩
              case measure => simp [intOf]
            · obtain rfl : b2 = true := HB.out.2.2.1.symm.trans hbm
              clear hbm
              have hx : ∀ w : World, (Instr.index 109 (.agg #[.bool b0, .bool b1, .bool true, .bool b3, .bool b4]) (.int .i64 ((2 : Nat) : Int))).run Tryd.prog w = .ok (.bool true) w := fun w => by kernel_rfl
              rw [show (((2 : Nat) : Int)) = 2 from rfl] at hW5
              go_wp2_with (first | (refine wpList_index_run rfl 109 _ _ rfl rfl rfl (hx _) ?_) | (at_builtin; refine wpList_append_run rfl _ _ 55 rfl rfl rfl hrun ?_))
              go_wp2
              go_roundw
              case rel => exact ⟨3, by omega, by go_num, HO2, hwx⟩
              case measure => simp [intOf]
            · obtain rfl : b3 = true := HB.out.2.2.2.1.symm.trans hbm
              clear hbm
              have hx : ∀ w : World, (Instr.index 109 (.agg #[.bool b0, .bool b1, .bool b2, .bool true, .bool b4]) (.int .i64 ((3 : Nat) : Int))).run Tryd.prog w = .ok (.bool true) w := fun w => by kernel_rfl
              rw [show (((3 : Nat) : Int)) = 3 from rfl] at hW5
              go_wp2_with (first | (refine wpList_index_run rfl 109 _ _ rfl rfl rfl (hx _) ?_) | (at_builtin; refine wpList_append_run rfl _ _ 55 rfl rfl rfl hrun ?_))
              go_wp2
              go_roundw
              case rel => exact ⟨4, by omega, by go_num, HO2, hwx⟩
              case measure => simp [intOf]
            · obtain rfl : b4 = true := HB.out.2.2.2.2.symm.trans hbm
              clear hbm
              have hx : ∀ w : World, (Instr.index 109 (.agg #[.bool b0, .bool b1, .bool b2, .bool b3, .bool true]) (.int .i64 ((4 : Nat) : Int))).run Tryd.prog w = .ok (.bool true) w := fun w => by kernel_rfl
              rw [show (((4 : Nat) : Int)) = 4 from rfl] at hW5
              go_wp2_with (first | (refine wpList_index_run rfl 109 _ _ rfl rfl rfl (hx _) ?_) | (at_builtin; refine wpList_append_run rfl _ _ 55 rfl rfl rfl hrun ?_))
              go_wp2
              go_roundw
              case rel => exact ⟨5, by omega, by go_num, HO2, hwx⟩
              case measure => simp [intOf]
        · obtain rfl : m = 5 := by omega
          have HFN := Lib.hid (show OwnIn w.heap.size wr (.slice oa (clist xs 5).length oc) ((calls xs).map (fun c : Nat => (c : Int))) from OwnSl.mono HO.out hzr)
          have hwf := hbr.trans (hbs.mono hzr)
          clear HO
          generalize (clist xs 5).length = cl at *
          go_wp2
          go_ret
          exact ⟨_, rfl, HFN.out, hwf⟩
end Go.Proofs.YtfcbbahlhjdefaaDoor
