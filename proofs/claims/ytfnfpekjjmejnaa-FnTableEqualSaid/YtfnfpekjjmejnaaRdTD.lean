/- The law FnTableDrop: the draw. -/
import Derived.Test.YtfnfpekjjmejnaaRdTF
import Derived.Test.YtfnfpekjjmejnaaRdPf
namespace Go.Proofs.Ytfnfpekjjmejnaa
open Go.RowKit
def DrewTD (w : World) (e : Ending) (w' : World) : Prop := ∃ v' ys p1 p2, e = .returned (.tuple #[v', .agg #[.int .i64 p1, .int .i64 p2]]) ∧ OwnEn w.heap.size w' v' ys ∧ ys.length ≤ 32 ∧ Below w.heap.size w w'
/-- The list and the reader while the answer's block A is not yet written. -/
def TdSt (R : Nat) (bs : List Int) (p : Nat) (w w1 : World) (A : Nat) (v : Value) (ys : List En) (wx : World) : Prop :=
  TfSt R bs p w1.heap.size w1 v ys wx ∧ Box2 wx A (.int .i64 0) (.int .i64 0) ∧ Below w.heap.size w wx
def TdEnd (w w1 : World) (A : Nat) (v : Value) (ys : List En) (wx : World) : Prop :=
  OwnEn w1.heap.size wx v ys ∧ (∃ a b, Box2 wx A (.int .i64 a) (.int .i64 b)) ∧ Below w.heap.size w wx
def TdC (R : Nat) (bs : List Int) (w w1 : World) (A : Nat) (v : Value) (ys : List En) (L : List Bool) (wx : World) : Prop :=
  (L[10]? = some true ∧ TdEnd w w1 A v ys wx) ∨ (L[10]? = some false ∧ TdSt R bs (if L[5]? = some true then 1241 else 1240) w w1 A v ys wx)
theorem TdC.keep {R : Nat} {bs : List Int} {w w1 : World} {A : Nat} {v : Value} {ys : List En} {L : List Bool} {wx : World} (h : TdC R bs w w1 A v ys L wx) {i : Nat} (h10 : i ≠ 10) (h5 : i ≠ 5) : TdC R bs w w1 A v ys (L.set i true) wx := by
  unfold TdC
  rw [List.getElem?_set_ne h10, List.getElem?_set_ne h5]
  exact h
theorem TdC.st {R : Nat} {bs : List Int} {w w1 : World} {A : Nat} {v : Value} {ys : List En} {L : List Bool} {wx : World} (h : TdC R bs w w1 A v ys L wx) (h10 : L[10]? ≠ some true) : L[10]? = some false ∧ TdSt R bs (if L[5]? = some true then 1241 else 1240) w w1 A v ys wx := by
  rcases h with h | h
  · exact absurd h.1 h10
  · exact h
/-- Facts that speak of values alone. -/
def HPure : List WV3 → Prop
  | [] => True
  | f :: Fs => (∀ L L' w w' v, f L w v → f L' w' v) ∧ HPure Fs
theorem hof_pure : ∀ (Fs : List WV3), HPure Fs → ∀ (L L' : List Bool) (j : Nat) (w w' : World) (v : Value), Hof Fs L j w v → Hof Fs L' j w' v
  | [], _, _, _, _, _, _, _, h => h
  | _ :: _, hs, L, L', 0, w, w', v, h => hs.1 L L' w w' v h
  | _ :: Fs, hs, L, L', j + 1, w, w', v, h => hof_pure Fs hs.2 L L' j w w' v h
theorem OwnEn.setB {base A : Nat} {w w' : World} {v : Value} {ys : List En} (h : OwnEn base w v ys) (hA : A < base) (hm : ∀ k, k < w.heap.size → k ≠ A → w'.heap[k]? = w.heap[k]?) : OwnEn base w' v ys :=
  OwnSl.from h (fun g h1 h2 => hm g h2 (by omega))
set_option maxRecDepth 100000 in
set_option maxHeartbeats 4000000 in
theorem drawTD_any (bs : List Int) (v : Value) (w : World) (h : CodeAt w v bs) : Calls Try.prog 31 #[v] w (DrewTD w) := by
  have hB0 := Box2.new w (.int .i64 0) (.int .i64 0) 33
  have hal : Below w.heap.size w (w.alloc (.cells #[.int .i64 0, .int .i64 0] 33)) := (Below.refl _ _).alloc (Nat.le_refl _) _
  have h0 : CodeAt (w.alloc (.cells #[.int .i64 0, .int .i64 0] 33)) v bs := ⟨h.1.below hal, h.2⟩
  go_enter Try.func31, Try.ntmps31
  go_wp2_with fail
  refine (open_any bs _ _ h0).mono ?_
  rintro e w1 ⟨R, bs', rfl, hR, hr1, hb1⟩
  have hz1 := hb1.size
  simp only [World.size_alloc] at hz1 hR
  have hRlt := hr1.lt
  have hB1 := hB0.below hb1
  have hw1 : Below w.heap.size w w1 := hal.trans (hb1.mono (by simp))
  clear h h0 hB0 hal hb1
  go_wp2_with fail
  refine (drawTb_any R bs' 0 12 _ hr1 (by omega) (by omega) (by omega)).mono ?_
  rintro e w2 ⟨v2, ys, q2, rfl, ho2, hl, hr2, hq2, hm2⟩
  have hz2 := hm2.size
  clear hr1
  obtain ⟨sa, cap, rfl, hlc, hcm, -⟩ := ho2.ens
  unfold maxLen at hcm
  have hB2 : Box2 w2 w.heap.size (.int .i64 0) (.int .i64 0) := hB1.mv hm2 (by omega) (by omega)
  have hb2 : Below w.heap.size w w2 := hw1.trans (hm2.below (by omega) (by omega))
  have ST := Lib.hid (show TdSt R bs' 1231 w w1 w.heap.size (.slice sa ys.length cap) ys w2 from ⟨⟨q2, ho2, hr2, by omega, hm2⟩, hB2, hb2⟩)
  clear ho2 hr2 hm2 hB1 hB2 hw1 hb2
  go_upto_region 3 with (fail)
  go_cut [17] (fun t wx => ∃ bb, t = .bool bb ∧ (bb = true → 0 < ys.length) ∧ TdSt R bs' 1232 w w1 w.heap.size (.slice sa ys.length cap) ys wx)
  case first =>
    obtain ⟨⟨q, ho, hr, hq, hmq⟩, hB, hb⟩ := ST.out
    clear ST
    have hzq := hmq.size
    by_cases h0 : 0 < ys.length
    · go_wp2_with fail
      refine (pick_any R bs' _ _ _ hr (by omega) (by omega)).mono ?_
      rintro e w4 ⟨x4, rfl, a4, b4, -, hr4, hm4⟩
      have b4' := b4 (by omega)
      have hz4 := hm4.size
      have ho4 : OwnEn w1.heap.size w4 _ ys := OwnSl.mvR ho hm4 hRlt
      have hmr4 : Mv R w1.heap.size w1 w4 := hmq.trans (hm4.mono hzq)
      have hB4 := hB.mv hm4 (by omega) (by omega)
      have hb4 : Below w.heap.size w w4 := hb.trans (hm4.below (by omega) (by omega))
      clear ho hr hm4 hmq b4 hB hb
      go_wp2_with fail
      go_meet
      exact ⟨_, rfl, fun _ => h0, ⟨_, ho4, hr4, by omega, hmr4⟩, hB4, hb4⟩
    · obtain rfl : ys = [] := List.eq_nil_of_length_eq_zero (by omega)
      clear h0
      go_wp2_with fail
      go_meet
      exact ⟨_, rfl, by simp, ⟨q, ho, hr, by omega, hmq⟩, hB, hb⟩
  case rest =>
   obtain ⟨bb, rfl, hbb, hst⟩ := hcut
   clear ST
   have ST := Lib.hid hst
   clear hst
   go_upto_if 17 with (fail)
   cases bb
   · obtain ⟨⟨q, ho, hr, hq, hmq⟩, hB, hb⟩ := ST.out
     clear ST
     obtain ⟨wx, rfl⟩ := nameMv hmq
     have hzq := hmq.size
     go_wp2_with fail
     refine (drawPf_any R bs' _ _ _ hr (by omega) (by omega) (by omega)).mono ?_
     rintro e w3 ⟨p1, p2, q3, rfl, -, -, -, -, hr3, hq3, hm3⟩
     have hz3 := hm3.size
     have ho3 : OwnEn w1.heap.size w3 _ ys := OwnSl.mvR ho hm3 hRlt
     have hB3 := hB.mv hm3 (by omega) (by omega)
     have hb3 : Below w.heap.size w w3 := hb.trans (hm3.below (by omega) (by omega))
     obtain ⟨_, d0, d1, df⟩ := hB3.set (.int .i64 p1) (.int .i64 p2)
     obtain ⟨k0, k1, k2, k3⟩ := hB3
     have ho9 : OwnEn w1.heap.size ((w3.setCell ⟨w.heap.size, 0, none⟩ (.int .i64 p1)).setCell ⟨w.heap.size, 1, none⟩ (.int .i64 p2)) _ ys := OwnSl.from ho3 (fun g h1 h2 => (Below.heap_setCell _ _ _ _ (by simp; omega)).trans (Below.heap_setCell _ _ _ _ (by simp; omega)))
     clear ho hr hm3 hmq hB hb
     go_wp2_with fail
     exact bodyPost_ret (v := .tuple #[.slice sa ys.length cap, .agg #[.int .i64 p1, .int .i64 p2]]) (by simp [results, Try.results31, go_sem, d0, d1]) rfl ⟨_, ys, p1, p2, rfl, OwnSl.mono ho9 (by omega), hl, by (repeat' (first | with_reducible exact Below.refl _ _ | with_reducible assumption | with_reducible refine Below.setCell ?_ ?_ _ | with_reducible refine Below.alloc ?_ ?_ _ | with_reducible refine Below.drew ?_ | with_reducible refine belDrewN ?_ _ | with_reducible refine Below.trans ?_ (Below.mono (by assumption) ?_) | omega | (simp; omega) | (simp; done)))⟩
   · have h0 := hbb rfl
     obtain ⟨⟨q4, ho4, hr4, hq4, hmr4⟩, hB4, hb4⟩ := ST.out
     obtain ⟨w4, rfl⟩ := nameMv hmr4
     have hz4 := hmr4.size
     clear ST hbb
     obtain ⟨b, o, -, -, -, rfl, -, -, -, -, -⟩ := (OwnEn.ens ho4).at h0
     have HC0 : TdC R bs' w w1 w.heap.size (.slice (some ⟨b, o, none⟩) ys.length cap) ys (List.replicate 11 false) { w4 with drawn := w4.drawn + 1 } :=
       .inr ⟨rfl, ⟨q4, ho4, ⟨hr4.lt, hr4.code, hr4.place, hr4.frz⟩, by simp; omega, hmr4.drew⟩, ⟨hB4.lt, hB4.c0, hB4.c1, hB4.frz⟩, hb4.drew⟩
     go_upto_region 4 with (fail)
     refine wp_region_rel2 (TdC R bs' w w1 w.heap.size (.slice (some ⟨b, o, none⟩) ys.length cap) ys) (Hof [HIs (.slice (some ⟨b, o, none⟩) ys.length cap), HIs (.slice (some ⟨b, o, none⟩) ys.length cap), HIs (.pointer (some ⟨R, 0, none⟩)), HIs (.slice (some ⟨b, o, none⟩) ys.length cap), HIs (.int .i64 ys.length), HV (fun v => ∃ k : Nat, v = .int .i64 k ∧ k < ys.length), HV (fun v => ∃ k : Nat, v = .pointer (some ⟨b, o + k * 3, none⟩) ∧ k < ys.length), HV (fun v => ∃ k : Nat, v = .pointer (some ⟨b, o + k * 3, none⟩) ∧ k < ys.length), HV (fun v => ∃ x y : Int, v = .agg #[.int .i64 x, .int .i64 y]), HIs (.slice (some ⟨b, o, none⟩) ys.length cap), HV (fun _ => True)])
       (by kernel_rfl) (fun u => by simp only [frU, Act.put, List.setIfInBounds_toArray, List.set_cons_succ, List.set_cons_zero, Nat.zero_add, Nat.reduceAdd]; exact rfl) (by kernel_rfl) HC0 ?hs1 ?hend1
     case hs1 =>
       have hP : HPure [HIs (.slice (some ⟨b, o, none⟩) ys.length cap), HIs (.slice (some ⟨b, o, none⟩) ys.length cap), HIs (.pointer (some ⟨R, 0, none⟩)), HIs (.slice (some ⟨b, o, none⟩) ys.length cap), HIs (.int .i64 ys.length), HV (fun v => ∃ k : Nat, v = .int .i64 k ∧ k < ys.length), HV (fun v => ∃ k : Nat, v = .pointer (some ⟨b, o + k * 3, none⟩) ∧ k < ys.length), HV (fun v => ∃ k : Nat, v = .pointer (some ⟨b, o + k * 3, none⟩) ∧ k < ys.length), HV (fun v => ∃ x y : Int, v = .agg #[.int .i64 x, .int .i64 y]), HIs (.slice (some ⟨b, o, none⟩) ys.length cap), HV (fun _ => True)] :=
         ⟨fun _ _ _ _ _ h => h, fun _ _ _ _ _ h => h, fun _ _ _ _ _ h => h, fun _ _ _ _ _ h => h, fun _ _ _ _ _ h => h, fun _ _ _ _ _ h => h, fun _ _ _ _ _ h => h, fun _ _ _ _ _ h => h, fun _ _ _ _ _ h => h, fun _ _ _ _ _ h => h, fun _ _ _ _ _ h => h, trivial⟩
       refine ⟨?_, ?_, ?_, ?_, ?_, ?_, ?_, ?_, ?_, ?_, ?_, trivial⟩
       · refine stepC (fun L u w3 hL hC hd hcl => ⟨rfl, fun Q K hK => ?_⟩)
         clear hd hcl
         go_step
         exact hK _ _ rfl (hC.keep (by omega) (by omega)) rfl (fun j x hj hL9 h9 => hof_pure _ hP _ _ j _ _ _ h9)
       · refine stepC (fun L u w3 hL hC hd hcl => ⟨rfl, fun Q K hK => ?_⟩)
         clear hd hcl
         go_step
         exact hK _ _ rfl (hC.keep (by omega) (by omega)) rfl (fun j x hj hL9 h9 => hof_pure _ hP _ _ j _ _ _ h9)
       · refine stepC (fun L u w3 hL hC hd hcl => ⟨rfl, fun Q K hK => ?_⟩)
         clear hd hcl
         go_step
         exact hK _ _ rfl (hC.keep (by omega) (by omega)) rfl (fun j x hj hL9 h9 => hof_pure _ hP _ _ j _ _ _ h9)
       · refine stepC (fun L u w3 hL hC hd hcl => ⟨rfl, fun Q K hK => ?_⟩)
         clear hd hcl
         go_step
         exact hK _ _ rfl (hC.keep (by omega) (by omega)) rfl (fun j x hj hL9 h9 => hof_pure _ hP _ _ j _ _ _ h9)
       · refine stepC (fun L u w3 hL hC hd hcl => ⟨rfl, fun Q K hK => ?_⟩)
         have hu := his (L := L) (w := w3) (hd 3 rfl).2; rw [hu] at hK ⊢; clear hu
         clear hd hcl
         go_step
         exact hK _ _ rfl (hC.keep (by omega) (by omega)) rfl (fun j x hj hL9 h9 => hof_pure _ hP _ _ j _ _ _ h9)
       · refine stepC (fun L u w3 hL hC hd hcl => ⟨rfl, fun Q K hK => ?_⟩)
         have hu := his (L := L) (w := w3) (hd 2 rfl).2; rw [hu] at hK ⊢; clear hu
         have hu := his (L := L) (w := w3) (hd 4 rfl).2; rw [hu] at hK ⊢; clear hu
         have h10 : L[10]? ≠ some true := fun hx => by have := hcl 10 _ rfl hx 5 rfl; rw [hL] at this; cases this
         clear hd hcl
         obtain ⟨hL10, ⟨q, ho, hr, hq, hm⟩, hB, hb⟩ := hC.st h10
         rw [if_neg (by rw [hL]; simp)] at hq
         go_step
         refine (pick_any R bs' q _ _ hr (by omega) (by omega)).mono ?_
         rintro e w5 ⟨x, rfl, hx0, hx1, hx2, hr5, hm5⟩
         have hx1' := hx1 (by omega)
         obtain ⟨n, rfl⟩ := Int.eq_ofNat_of_zero_le hx0
         have hzq := hm.size
         refine hK _ _ rfl (.inr ⟨by rw [List.getElem?_set_ne (by omega)]; exact hL10, ⟨q + 1, OwnSl.mvR ho hm5 hRlt, hr5, ?_, hm.trans (hm5.mono hzq)⟩, hB.mv hm5 (by omega) (by omega), hb.trans (hm5.below (by omega) (by omega))⟩) ⟨n, rfl, by omega⟩ (fun j x hj hL9 h9 => hof_pure _ hP _ _ j _ _ _ h9)
         rw [if_pos (set_now hL)]; omega
       · refine stepC (fun L u w3 hL hC hd hcl => ⟨rfl, fun Q K hK => ?_⟩)
         have hu := his (L := L) (w := w3) (hd 1 rfl).2; rw [hu] at hK ⊢; clear hu
         obtain ⟨k, hu, hk⟩ := (hd 5 rfl).2; rw [hu] at hK ⊢; clear hu
         clear hd hcl
         have hkl : (k : Int) < ys.length := by omega
         go_step
         exact hK _ _ rfl (hC.keep (by omega) (by omega)) ⟨k, rfl, hk⟩ (fun j x hj hL9 h9 => hof_pure _ hP _ _ j _ _ _ h9)
       · refine stepC (fun L u w3 hL hC hd hcl => ⟨rfl, fun Q K hK => ?_⟩)
         obtain ⟨k, hu, hk⟩ := (hd 6 rfl).2; rw [hu] at hK ⊢; clear hu
         clear hd hcl
         go_step
         exact hK _ _ rfl (hC.keep (by omega) (by omega)) ⟨k, rfl, hk⟩ (fun j x hj hL9 h9 => hof_pure _ hP _ _ j _ _ _ h9)
       · refine stepC (fun L u w3 hL hC hd hcl => ⟨rfl, fun Q K hK => ?_⟩)
         obtain ⟨k, hu, hk⟩ := (hd 7 rfl).2; rw [hu] at hK ⊢; clear hu
         have h10 : L[10]? ≠ some true := fun hx => by have := hcl 10 _ rfl hx 8 rfl; rw [hL] at this; cases this
         clear hd hcl
         obtain ⟨hL10, ⟨q, ho, hr, hq, hm⟩, hB, hb⟩ := hC.st h10
         obtain ⟨eb, eo, f1, f2, f3, he, hbl, hx, c0, c1, c2⟩ := (OwnEn.ens ho).at hk
         obtain ⟨rfl, rfl, -⟩ := Addr.mk.inj (Option.some.inj he)
         clear he c2 hx
         go_step
         exact hK _ _ rfl (hC.keep (by omega) (by omega)) ⟨f1, f2, rfl⟩ (fun j x hj hL9 h9 => hof_pure _ hP _ _ j _ _ _ h9)
       · refine stepC (fun L u w3 hL hC hd hcl => ⟨rfl, fun Q K hK => ?_⟩)
         have hu := his (L := L) (w := w3) (hd 0 rfl).2; rw [hu] at hK ⊢; clear hu
         clear hd hcl
         go_step
         exact hK _ _ rfl (hC.keep (by omega) (by omega)) rfl (fun j x hj hL9 h9 => hof_pure _ hP _ _ j _ _ _ h9)
       · refine stepC (fun L u w3 hL hC hd hcl => ⟨rfl, fun Q K hK => ?_⟩)
         obtain ⟨x, y, hu⟩ := (hd 8 rfl).2; rw [hu] at hK ⊢; clear hu
         have h10 : L[10]? ≠ some true := by rw [hL]; simp
         clear hd hcl
         obtain ⟨hL10, ⟨q, ho, hr, hq, hm⟩, hB, hb⟩ := hC.st h10
         obtain ⟨_, d0, d1, df⟩ := id hB
         have hB' := hB.set (.int .i64 x) (.int .i64 y)
         have ho' : OwnEn w1.heap.size ((w3.setCell ⟨w.heap.size, 0, none⟩ (.int .i64 x)).setCell ⟨w.heap.size, 1, none⟩ (.int .i64 y)) _ ys := OwnSl.from ho (fun g h1 h2 => (Below.heap_setCell _ _ _ _ (by simp; omega)).trans (Below.heap_setCell _ _ _ _ (by simp; omega)))
         go_step
         exact hK _ _ rfl (.inl ⟨set_now hL, ho', ⟨x, y, hB'⟩, by (repeat' (first | with_reducible exact Below.refl _ _ | with_reducible assumption | with_reducible refine Below.setCell ?_ ?_ _ | with_reducible refine Below.alloc ?_ ?_ _ | with_reducible refine Below.drew ?_ | with_reducible refine belDrewN ?_ _ | with_reducible refine Below.trans ?_ (Below.mono (by assumption) ?_) | omega | (simp; omega) | (simp; done)))⟩) trivial (fun j x hj hL9 h9 => hof_pure _ hP _ _ j _ _ _ h9)
     case hend1 =>
       intro L u w9 hLs hC hF
       have hu := his (L := L) (w := w9) (hF 9 (by decide))
       rw [hu]
       obtain ⟨-, ho9, ⟨p1, p2, hB9⟩, hb9⟩ : L[10]? = some true ∧ TdEnd w w1 w.heap.size (.slice (some ⟨b, o, none⟩) ys.length cap) ys w9 := by
         rcases hC with h | h
         · exact h
         · have := hLs 10 (by decide); rw [h.1] at this; cases this
       obtain ⟨_, d0, d1, df⟩ := hB9
       clear hF hu hLs
       go_wp2_with fail
       exact bodyPost_ret (v := .tuple #[.slice (some ⟨b, o, none⟩) ys.length cap, .agg #[.int .i64 p1, .int .i64 p2]]) (by simp [results, Try.results31, go_sem, d0, d1]) rfl ⟨_, ys, p1, p2, rfl, OwnSl.mono ho9 (by omega), hl, hb9⟩
end Go.Proofs.Ytfnfpekjjmejnaa
