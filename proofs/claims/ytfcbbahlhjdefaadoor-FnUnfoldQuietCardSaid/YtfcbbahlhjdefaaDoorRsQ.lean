/- The reference's l8Order and RulesetValid; both answers are the same. -/
import Derived.Test.YtfcbbahlhjdefaaDoorUSn
import Derived.Test.YtfcbbahlhjdefaaDoorRsZ
/- The box of tests, exactly: the reference. -/
namespace Go.Proofs.YtfcbbahlhjdefaaDoor
open Go.RowKit
end Go.Proofs.YtfcbbahlhjdefaaDoor
namespace Go.Proofs.YtfcbbahlhjdefaaDoor
open Go.RowKit
abbrev encBl (b : Bool) : List Value := [.bool b]
abbrev OwnBl (base : Nat) (w : World) (v : Value) (ys : List Bool) : Prop := OwnSl base 4 1 encBl w v ys
theorem infoBl : (Tryd.prog.info? 4).map (fun i => (i.zero, i.size, i.bytes)) = some (some (.bool false), 1, 1) := by kernel_rfl
def specOk (cs : List (List Ru)) : Bool := cs.all rusvalid && cs.all (fun l => l.all (fun r => decide (r.ch < (cs.length : Int)))) && inB cs.length 1 5 && decide (kcount (kfin cs) = cs.length)
theorem specOk_eq (cs : List (List Ru)) : specOk cs = rsvalid cs := by
  unfold specOk rsvalid
  cases hA : cs.all rusvalid
  · simp
  · cases hI : inB cs.length 1 5
    · simp
    · rw [inB_iff] at hI
      have hn : cs.length ≤ 5 := by omega
      have hok : ∀ l, l ∈ cs → ∀ r, r ∈ l → r.ok = true := fun l hl r hr => by
        have h := List.all_eq_true.1 hA l hl
        unfold rusvalid at h
        rw [Bool.and_eq_true, List.all_eq_true] at h
        exact h.1 r hr
      have hcall : ∀ l, l ∈ cs → ∀ r, r ∈ l → r.act = 3 → 0 ≤ r.ch ∧ r.ch < 5 := fun l hl r hr ha => by
        have h := hok l hl r hr
        obtain ⟨ts, a, c⟩ := r
        exact ruok_call h ha
      have hno : ∀ l, l ∈ cs → ∀ r, r ∈ l → r.act ≠ 3 → r.ch = 0 := fun l hl r hr ha => by
        have h := hok l hl r hr
        obtain ⟨ts, a, c⟩ := r
        rw [ruok_eq] at h
        have hb : (a == 3) = false := by simpa using ha
        simp [hb] at h
        exact h.2.2
      have hiff : cs.all (fun l => l.all (fun r => decide (r.ch < (cs.length : Int)))) = callsOk cs := by
        rw [Bool.eq_iff_iff]
        unfold callsOk
        rw [List.all_eq_true, List.all_eq_true]
        constructor
        · intro h l hl
          rw [List.all_eq_true]
          intro c hc
          unfold calls at hc
          rw [List.mem_filter, List.any_eq_true] at hc
          obtain ⟨_, r, hr, hrc⟩ := hc
          simp only [Bool.and_eq_true, beq_iff_eq] at hrc
          have := of_decide_eq_true (List.all_eq_true.1 (h l hl) r hr)
          exact decide_eq_true (by omega)
        · intro h l hl
          rw [List.all_eq_true]
          intro r hr
          by_cases ha : r.act = 3
          · obtain ⟨h0, h5⟩ := hcall l hl r hr ha
            have hm : r.ch.toNat ∈ calls l := by
              unfold calls
              rw [List.mem_filter, List.mem_range, List.any_eq_true]
              refine ⟨by omega, r, hr, ?_⟩
              simp only [Bool.and_eq_true, beq_iff_eq]
              exact ⟨ha, by omega⟩
            have := of_decide_eq_true (List.all_eq_true.1 (h l hl) _ hm)
            exact decide_eq_true (by omega)
          · exact decide_eq_true (by rw [hno l hl r hr ha]; omega)
      rw [hiff]
      cases hC : callsOk cs
      · simp
      · have hin : CallsIn cs := fun l hl r hr ha => by
          obtain ⟨h0, h5⟩ := hcall l hl r hr ha
          have h1 := List.all_eq_true.1 (hiff.trans hC) l hl
          exact ⟨h0, h5, of_decide_eq_true (List.all_eq_true.1 h1 r hr)⟩
        rw [acycl_kfin hin hn]
theorem rsvalid_in {cs : List (List Ru)} (h : rsvalid cs = true) : CallsIn cs ∧ 1 ≤ cs.length ∧ cs.length ≤ 5 ∧ (∀ l, l ∈ cs → rusvalid l = true) ∧ ∃ f, Ht cs f 0 := by
  have h2 := h
  rw [← specOk_eq] at h2
  unfold specOk at h2
  unfold rsvalid at h
  simp only [Bool.and_eq_true] at h h2
  obtain ⟨⟨⟨hI, hA⟩, hC⟩, hY⟩ := h
  rw [inB_iff] at hI
  have hcin : CallsIn cs := fun l hl r hr ha => by
    have hv := List.all_eq_true.1 hA l hl
    unfold rusvalid at hv
    rw [Bool.and_eq_true, List.all_eq_true] at hv
    have h := hv.1 r hr
    have h3 := of_decide_eq_true (List.all_eq_true.1 (List.all_eq_true.1 h2.1.1.2 l hl) r hr)
    obtain ⟨ts, a, c⟩ := r
    obtain ⟨h0, h5⟩ := ruok_call h ha
    exact ⟨h0, h5, h3⟩
  exact ⟨hcin, by omega, by omega, fun l hl => List.all_eq_true.1 hA l hl, ((acycl_iff (by omega)).1 hY 0 (by omega)).ht⟩
theorem kcount_set : ∀ (d : List Bool) (c : Nat), c < d.length → d.getD c false = false → kcount (d.set c true) = kcount d + 1
  | [], _, h, _ => by simp at h
  | b :: d, 0, _, h => by
    simp at h
    subst h
    unfold kcount
    simp
  | b :: d, c + 1, hl, h => by
    have ih := kcount_set d c (by simpa using hl) (by simpa using h)
    unfold kcount at *
    rw [List.set_cons_succ, List.countP_cons, List.countP_cons, ih]
    omega
theorem kready_succ {l : List Ru} {d : List Bool} {k : Nat} {r : Ru} (h : l[k]? = some r) : (l.take (k + 1)).all (fun r => r.act != 3 || d.getD r.ch.toNat false) = ((l.take k).all (fun r => r.act != 3 || d.getD r.ch.toNat false) && (r.act != 3 || d.getD r.ch.toNat false)) := by
  rw [List.take_add_one, h, Option.toList_some, List.all_append]
  simp
theorem litOwnJ {base : Nat} {w : World} (h : base ≤ w.heap.size) : OwnIn base (w.alloc (.cells #[] 3)) (.slice (some ⟨w.heap.size, 0, none⟩) 0 0) [] := by
  have := World.ownsRow_made (e := 3) (size := 1) w #[] 0 h (by simp) (by simp)
  simpa [OwnIn, OwnSl] using this
structure Ord (w : World) (g n : Nat) (o : Value) (d : List Bool) : Prop where
  blk : OwnBl g w (.slice (some ⟨g, 0, none⟩) n n) d
  len : d.length = n
  lt : g < w.heap.size
  ord : ∃ ys : List Int, OwnIn (g + 1) w o ys ∧ ys.length = kcount d
theorem Ord.below {w w' : World} {g n : Nat} {o : Value} {d : List Bool} (h : Ord w g n o d) (hb : Below w.heap.size w w') : Ord w' g n o d :=
  let ⟨ys, h1, h2⟩ := h.ord
  ⟨OwnSl.kept h.blk hb, h.len, Nat.lt_of_lt_of_le h.lt hb.size, ys, OwnSl.kept h1 hb, h2⟩
theorem Ord.form {w : World} {g n : Nat} {o : Value} {d : List Bool} (h : Ord w g n o d) : ∃ a c, o = .slice a (kcount d) c := by
  obtain ⟨ys, h1, h2⟩ := h.ord
  rcases OwnSl.form h1 with ⟨h, h'⟩ | ⟨g, c, h, _⟩
  · exact ⟨_, _, by rw [h, ← h2, h']; rfl⟩
  · exact ⟨_, _, by rw [h, ← h2]⟩
theorem Ord.at {w : World} {g n : Nat} {o : Value} {d : List Bool} (h : Ord w g n o d) {c : Nat} (hc : c < n) : w.cell? ⟨g, c, none⟩ = some (.bool (d.getD c false)) := by
  have hl := h.len
  have hg : d[c]? = some (d.getD c false) := by rw [List.getD_eq_getElem?_getD, List.getElem?_eq_getElem (by omega)]; rfl
  have := OwnSl.cell (sz := 1) (enc := encBl) (fun _ => rfl) h.blk hg 0 _ rfl
  simpa using this
theorem Ord.frz {w : World} {g n : Nat} {o : Value} {d : List Bool} (h : Ord w g n o d) (c : Nat) : w.frozen? ⟨g, c, none⟩ = false := OwnSl.frz h.blk c
theorem kcount_le (d : List Bool) : kcount d ≤ d.length := List.countP_le_length
/-- A chain is done: its flag is set and its number comes to the order. -/
theorem Ord.step {w : World} {g n : Nat} {o : Value} {d : List Bool} (h : Ord w g n o d) {c : Nat} (hn : n ≤ 5) (hc : c < n) (hd : d.getD c false = false) :
    ∃ v' w', (Builtin.append_ #[55, 55] 55 #[o, .slice (some ⟨w.heap.size, 0, none⟩) 1 1]).run Tryd.prog ((w.setCell ⟨g, c, none⟩ (.bool true)).alloc (.cells #[.int .i64 (c : Int)] 3)) = .ok v' w' ∧ Ord w' g n v' (d.set c true) ∧ Below g w w' := by
  obtain ⟨i0, hi, hy0, hy1, hy2⟩ := info_parts infoInt
  have hl := h.len
  obtain ⟨ys, h1, h2⟩ := h.ord
  have hlt := h.lt
  have hk := kcount_le d
  obtain ⟨hst, hgr⟩ := OwnSl.store (sz := 1) (enc := encBl) (fun _ => rfl) hl.symm h.blk (k := c) (by omega) true
  simp only [Nat.mul_one, wSet] at hst hgr
  obtain ⟨W1, hW1⟩ : ∃ W1, w.setCell ⟨g, c, none⟩ (.bool true) = W1 := ⟨_, rfl⟩
  have hz1 : W1.heap.size = w.heap.size := by rw [← hW1]; simp
  have b1 : Below g w W1 := by rw [← hW1]; exact (Below.refl _ _).setCell (by simp) _
  rw [hW1] at hst hgr ⊢
  have o1 : OwnIn (g + 1) W1 o ys := OwnSl.keepB h1 (fun z z1 z2 z3 => hgr.block z z3 (fun e => by cases e; omega))
  obtain ⟨W5, hW5⟩ : ∃ W5, W1.alloc (.cells #[.int .i64 (c : Int)] 3) = W5 := ⟨_, rfl⟩
  have hal5 : Below W1.heap.size W1 W5 := by rw [← hW5]; exact (Below.refl _ _).alloc (Nat.le_refl _) _
  have hlit : SlAt 1 encI W5 (.slice (some ⟨W1.heap.size, 0, none⟩) 1 1) [(c : Int)] := by
    rw [← hW5]
    refine ⟨_, 1, rfl, by simp, by simp [maxLen], fun k x hk => ?_⟩
    match k, hk with
    | 0, hk =>
      cases hk
      refine ⟨W1.heap.size, 0, rfl, by simp, fun j u hj => ?_⟩
      have := cellsNew W1 (encI (c : Int)) 3 j u hj
      rwa [Addr.add_lit] at this
    | k + 1, hk => simp at hk
  rw [← hz1, hW5]
  have hz5 := hal5.size
  obtain ⟨v', w', hrun, hown, hg2, hat⟩ := own_append_all (sz := 1) (enc := encI) (by omega) (fun _ => rfl) (P := Tryd.prog) (w := W5) 55 55 3 i0 _ 8 Tryd.underlying55 hi hy0 hy1 hy2 rfl (zs := [(c : Int)]) (by simp [Value.oneCell']) (OwnSl.kept o1 hal5) hlit (by simp; omega) (by simp only [maxLen, List.length_singleton]; omega) (by omega)
  have hlow : ∀ z, o.ownBlock = some z → g + 1 ≤ z := fun z hz => (World.ownsRow.lt o1 z hz).1
  refine ⟨v', w', hrun, ⟨?_, by rw [List.length_set, hl], ?_, _, hown, ?_⟩, ?_⟩
  · refine OwnSl.keepB (OwnSl.kept hst hal5) (fun z z1 z2 z3 => hg2.block z z3 (fun e => ?_))
    cases z1
    have := hlow g e.symm
    omega
  · have := hg2.size
    omega
  · rw [List.length_append, List.length_singleton, h2, kcount_set _ _ (by omega) hd]
  · exact (b1.trans (hal5.mono (by omega))).grown hg2 (by omega) (fun z hz => by have := hlow z hz; omega)
theorem krounds_succ (cs : List (List Ru)) (k : Nat) (d : List Bool) : krounds cs (k + 1) d = (List.range cs.length).foldl (kstep cs) (krounds cs k d) := rfl
def kpart (cs : List (List Ru)) (d : List Bool) (c : Nat) : List Bool := (List.range c).foldl (kstep cs) d
theorem kpart_succ (cs : List (List Ru)) (d : List Bool) (c : Nat) : kpart cs d (c + 1) = kstep cs (kpart cs d c) c := by
  unfold kpart
  rw [List.range_succ, List.foldl_append]
  rfl
set_option maxHeartbeats 4000000 in
set_option maxRecDepth 100000 in
theorem l8Order_any {lo : Nat} (cs : List (List Ru)) (hc : CallsIn cs) (hn5 : cs.length ≤ 5) (acc : Bool) (v : Value) (w : World) (hs : Rss lo w v cs) :
    Calls Tryd.prog 22 #[.agg #[v, .bool acc]] w fun e w' => ∃ a c, e = .returned (.slice a (kcount (kfin cs)) c) ∧ Below w.heap.size w w' := by
  obtain ⟨va, vc, rfl, hlc, hcm⟩ := hs.form
  unfold maxLen at hcm
  obtain ⟨n, hnn⟩ : ∃ n, cs.length = n := ⟨_, rfl⟩
  have HN := Lib.hid hnn
  have HCI := Lib.hid hc
  rw [hnn] at hs hlc hn5 ⊢
  obtain ⟨W, hW⟩ : ∃ W, w.alloc (.cells #[.slice va n vc, .bool acc] 25) = W := ⟨_, rfl⟩
  have hal : Below w.heap.size w W := by rw [← hW]; exact (Below.refl _ _).alloc (Nat.le_refl _) _
  have hl : w.heap.size < W.heap.size := by rw [← hW]; simp
  have q0 : W.cell? ⟨w.heap.size, 0, none⟩ = some (.slice va n vc) := by rw [← hW]; simp
  have HQ := Lib.hid q0
  have HS := Lib.hid (hs.below hal)
  obtain ⟨i0, hi, hz0, hz1, hz2⟩ := info_parts infoBl
  clear hs hnn hc
  go_enter Tryd.func22, Tryd.ntmps22
  go_wp2_with (at_make; refine wpList_make_full _ rfl _ _ 95 rfl W.heap.size 4 i0 _ 1 Tryd.underlying95 hi hz0 hz1 _ _ _ _ n rfl rfl rfl rfl ?b1 ?b2 ?b3 ?_)
  case b1 => rw [hz2]; omega
  case b2 => simp only [maxLen]; omega
  case b3 => omega
  intro w2 hown2 hgrow2
  have hb2 : Below W.heap.size W w2 := (Below.refl _ _).grown hgrow2 (Nat.le_refl _) (fun k hk => by cases hk)
  have hO2 : OwnBl W.heap.size w2 (.slice (some ⟨W.heap.size, 0, none⟩) n n) (List.replicate n false) := by
    unfold OwnBl OwnSl
    rw [List.length_replicate, ← madeFlat (sz := 1) (enc := encBl) (fun _ => rfl) (by omega) (.bool false) (false : Bool) rfl, Nat.mul_one]
    exact hown2
  have hz2w : W.heap.size < w2.heap.size := by
    rcases OwnSl.form hO2 with ⟨h, _⟩ | ⟨g, cp, h, _, h2, _⟩
    · cases h
    · obtain ⟨h3, _, _⟩ := Value.slice.inj h; cases h3; exact h2
  obtain ⟨g, hg⟩ : ∃ g, W.heap.size = g := ⟨_, rfl⟩
  obtain ⟨W3, hW3⟩ : ∃ W3, w2.alloc (.cells #[] 3) = W3 := ⟨_, rfl⟩
  have hb3 : Below w2.heap.size w2 W3 := by rw [← hW3]; exact (Below.refl _ _).alloc (Nat.le_refl _) _
  have HO3 := Lib.hid (show Ord W3 g n (.slice (some ⟨w2.heap.size, 0, none⟩) 0 0) (krounds cs 0 (List.replicate n false)) by
    rw [hg] at hO2 hz2w
    refine ⟨OwnSl.kept hO2 hb3, by simp [krounds], Nat.lt_of_lt_of_le hz2w hb3.size, [], ?_, ?_⟩
    · rw [← hW3]
      exact OwnSl.mono (litOwnJ (Nat.le_refl _)) (by omega)
    · unfold krounds kcount
      simp [List.countP_replicate])
  have hbW3 : Below W.heap.size W W3 := hb2.trans (hb3.mono (by omega))
  rw [hg] at hbW3
  have HNL := Lib.hid (show ∀ k, (krounds cs k (List.replicate n false)).length = n from fun k => by rw [krounds_len]; simp)
  have hlg : w.heap.size < g := by omega
  clear hown2 hgrow2 hb2 hO2 hz2w hb3 q0
  rw [hg]
  go_wp2_with fail
  go_loopw [4, 5, 6, 7, 8, 9] (fun o i _ _ _ _ wr => ∃ k : Nat, k ≤ n ∧ i = .int .i64 k ∧ Hid (Ord wr g n o (krounds cs k (List.replicate n false))) ∧ Below g W wr) (fun _ i _ _ _ _ _ => n - (intOf i).toNat)
  case atStart => exact ⟨0, by omega, rfl, HO3, hbW3⟩
  case round =>
    obtain ⟨k, hk, rfl, HO, hbr⟩ := hrel
    have hzr : g ≤ wr.heap.size := by have := hbr.size; omega
    have c9 := (hbr.cell (p := ⟨w.heap.size, 0, none⟩) hlg).trans HQ.out
    obtain ⟨oa, oc, rfl⟩ := HO.out.form
    by_cases hlt : k < n
    · have i1 : (k : Int) < (n : Int) := by omega
      obtain ⟨d0, hd0⟩ : ∃ d0, krounds cs k (List.replicate n false) = d0 := ⟨_, rfl⟩
      have HD0 := Lib.hid hd0
      rw [hd0] at HO ⊢
      obtain ⟨W0, hW0⟩ : ∃ W0, W0 = wr := ⟨_, rfl⟩
      subst hW0
      clear hd0
      go_wp2_with fail
      go_loopw [4, 6, 7, 8, 9] (fun o i _ _ _ wr => ∃ c : Nat, c ≤ n ∧ i = .int .i64 c ∧ Hid (Ord wr g n o (kpart cs d0 c)) ∧ Below g W wr) (fun _ i _ _ _ _ => n - (intOf i).toNat)
      case atStart => exact ⟨0, by omega, rfl, HO, hbr⟩
      case round =>
        obtain ⟨c, hcn, rfl, HO, hbr⟩ := hrel
        have hzr : g ≤ wr.heap.size := by have := hbr.size; omega
        have c9 := (hbr.cell (p := ⟨w.heap.size, 0, none⟩) hlg).trans HQ.out
        obtain ⟨oa, oc, rfl⟩ := HO.out.form
        by_cases hlt : c < n
        · have i1 : (c : Int) < (n : Int) := by omega
          have i2 : (0 : Int) ≤ (c : Int) := by omega
          have HKS := Lib.hid (kpart_succ cs d0 c)
          obtain ⟨d, hd⟩ : ∃ d, kpart cs d0 c = d := ⟨_, rfl⟩
          rw [hd] at HO HKS ⊢
          obtain ⟨m, hm⟩ : ∃ m, kcount d = m := ⟨_, rfl⟩
          rw [hm]
          rw [hm] at HO
          have e0 := HO.out.at hlt
          obtain ⟨dc, hdc⟩ : ∃ dc, d.getD c false = dc := ⟨_, rfl⟩
          have HDC := Lib.hid hdc
          rw [hdc] at e0
          obtain ⟨l, hx⟩ : ∃ l, cs[c]? = some l := ⟨_, List.getElem?_eq_getElem (by rw [HN.out]; exact hlt)⟩
          have HX := Lib.hid hx
          have HSW := Lib.hid (HS.out.below (hbr.mono (by omega)))
          obtain ⟨b, o, sv, rfl, hbl, f0, hsv⟩ := HSW.out.at hx
          obtain ⟨sa, sc, rfl, hsl, hsm⟩ := hsv.form
          unfold maxLen at hsm
          have HSV := Lib.hid hsv
          obtain ⟨ln, hln⟩ : ∃ ln, l.length = ln := ⟨_, rfl⟩
          have HLN := Lib.hid hln
          rw [hln] at f0 HSV hsl
          have HE := Lib.hid (show kstep cs d c = if (!dc && l.all (fun r => r.act != 3 || d.getD r.ch.toNat false)) = true then d.set c true else d by
            unfold kstep kready
            rw [hdc, getD_get hx])
          clear hx hsv hln hdc hd hm
          obtain ⟨W1, hW1⟩ : ∃ W1, W1 = wr := ⟨_, rfl⟩
          subst hW1
          go_wp2_with fail
          go_loopw [7, 8, 9] (fun fr i _ wr => ∃ j : Nat, j ≤ ln ∧ i = .int .i64 j ∧ fr = .bool (!dc && (l.take j).all (fun r => r.act != 3 || d.getD r.ch.toNat false)) ∧ Below W1.heap.size W1 wr) (fun _ i _ _ => ln - (intOf i).toNat)
          case atStart => exact ⟨0, by omega, rfl, by simp, Below.refl _ _⟩
          case round =>
            obtain ⟨j, hj, rfl, rfl, hbs⟩ := hrel
            have hzs := hbs.size
            have HOr := Lib.hid (HO.out.below hbs)
            have hbt : Below g W wr := hbr.trans (hbs.mono hzr)
            have c9 := (hbt.cell (p := ⟨w.heap.size, 0, none⟩) hlg).trans HQ.out
            have f0 := (hbs.cell (p := ⟨b, o + c, none⟩) hbl).trans f0
            by_cases hlj : j < ln
            · have j1 : (j : Int) < (ln : Int) := by omega
              have j2 : (0 : Int) ≤ (j : Int) := by omega
              obtain ⟨⟨ts, ra, rc⟩, hx⟩ : ∃ x, l[j]? = some x := ⟨_, List.getElem?_eq_getElem (by rw [HLN.out]; exact hlj)⟩
              obtain ⟨bb, oo, tv, hsb, hbl2, g0, g1, g2, hsv⟩ := (HSV.out.below hbs).at hx
              obtain ⟨ta, tc, rfl, -, -⟩ := hsv.form
              cases hsb
              simp only at g0 g1 g2
              have HSC := Lib.hid (kready_succ (d := d) hx)
              have HCL := Lib.hid (HCI.out l (List.mem_of_getElem? HX.out) _ (List.mem_of_getElem? hx))
              obtain ⟨fl, hfl⟩ : ∃ fl, (!dc && (l.take j).all (fun r => r.act != 3 || d.getD r.ch.toNat false)) = fl := ⟨_, rfl⟩
              have HFL := Lib.hid hfl
              rw [hfl]
              generalize ts.length = tl at *
              obtain ⟨W4, hW4⟩ : ∃ W4, wr.alloc (.cells #[.slice ta tl tc, .int .i64 ra, .int .i64 rc] 34) = W4 := ⟨_, rfl⟩
              have hal4 : Below wr.heap.size wr W4 := by rw [← hW4]; exact (Below.refl _ _).alloc (Nat.le_refl _) _
              have r1 : W4.cell? ⟨wr.heap.size, 1, none⟩ = some (.int .i64 ra) := by rw [← hW4]; simp
              have r2 : W4.cell? ⟨wr.heap.size, 2, none⟩ = some (.int .i64 rc) := by rw [← hW4]; simp
              have hw4 : Below W1.heap.size W1 W4 := hbs.trans (hal4.mono hzs)
              clear hx hsv hfl
              cases fl
              · go_wp2
                go_roundw
                case rel => exact ⟨j + 1, by omega, by go_num, by rw [HSC.out, ← Bool.and_assoc, HFL.out]; rfl, hw4⟩
                case measure => simp [intOf]; omega
              · by_cases h3 : ra = 3
                · subst h3
                  obtain ⟨p0, p5, pn⟩ := HCL.out rfl
                  simp only at p0 p5 pn
                  rw [HN.out] at pn
                  obtain ⟨q, rfl⟩ := Int.eq_ofNat_of_zero_le p0
                  have hqn : q < n := by omega
                  have e4 := (HOr.out.below hal4).at hqn
                  go_wp2
                  go_roundw
                  case rel => exact ⟨j + 1, by omega, by go_num, by rw [HSC.out, ← Bool.and_assoc, HFL.out]; simp, hw4⟩
                  case measure => simp [intOf]; omega
                · have h3b : (ra == 3) = false := by simpa using h3
                  have h3c : (ra != 3) = true := by simpa using h3
                  go_wp2
                  go_roundw
                  case rel => exact ⟨j + 1, by omega, by go_num, by rw [HSC.out, ← Bool.and_assoc, HFL.out]; simp [h3c], hw4⟩
                  case measure => simp [intOf]; omega
            · have hjl : j = ln := by omega
              subst hjl
              have HTK := Lib.hid (show l.take j = l by rw [List.take_of_length_le (by rw [HLN.out]; omega)])
              rw [HTK.out]
              obtain ⟨fl, hfl⟩ : ∃ fl, (!dc && l.all (fun r => r.act != 3 || d.getD r.ch.toNat false)) = fl := ⟨_, rfl⟩
              rw [hfl]
              rw [hfl] at HE
              cases fl
              · have HO2 := Lib.hid (show Ord wr g n (.slice oa m oc) (kpart cs d0 (c + 1)) by rw [HKS.out, HE.out]; exact HOr.out)
                go_wp2
                go_roundw
                case rel => exact ⟨c + 1, by omega, by go_num, HO2, hbt⟩
                case measure => simp [intOf]; omega
              · have hd0 : dc = false := by cases dc; rfl; simp at hfl
                obtain ⟨v', w', hrun, ho, hbo⟩ := HOr.out.step hn5 hlt (HDC.out.trans hd0)
                have HO2 := Lib.hid (show Ord w' g n v' (kpart cs d0 (c + 1)) by rw [HKS.out, HE.out]; exact ho)
                have hbx : Below g W w' := hbt.trans hbo
                have e5 := HOr.out.at hlt
                have e6 := HOr.out.frz c
                clear ho hbo
                go_wp2_with (at_builtin; refine wpList_append_run rfl _ _ 55 rfl rfl rfl hrun ?_)
                go_wp2
                go_roundw
                case rel => exact ⟨c + 1, by omega, by go_num, HO2, hbx⟩
                case measure => simp [intOf]; omega
        · have hcn' : c = n := by omega
          subst hcn'
          have HO2 := Lib.hid (show Ord wr g c (.slice oa (kcount (kpart cs d0 c)) oc) (krounds cs (k + 1) (List.replicate c false)) by
            rw [krounds_succ, HD0.out, HN.out]; exact HO.out)
          go_wp2
          go_roundw
          case rel => exact ⟨k + 1, by omega, by go_num, HO2, hbr⟩
          case measure => simp [intOf]; omega
    · have hkn : k = n := by omega
      subst hkn
      have HF := Lib.hid (show krounds cs k (List.replicate k false) = kfin cs by unfold kfin; rw [HN.out])
      rw [HF.out]
      go_wp2
      go_ret
      exact ⟨_, _, rfl, hal.trans (hbr.mono (by omega))⟩
end Go.Proofs.YtfcbbahlhjdefaaDoor
