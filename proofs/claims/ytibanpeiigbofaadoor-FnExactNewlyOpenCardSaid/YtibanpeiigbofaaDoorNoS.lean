/- Newly open packets: both functions. -/
import Derived.Test.YtibanpeiigbofaaDoorNoI
import Derived.Test.YtibanpeiigbofaaDoorFdS
namespace Go.Proofs.YtibanpeiigbofaaDoor
open Go.RowKit
theorem nopen_eq {fs gs : List Ft} {r c : Bool} {O : Option (List Bx)} (h : nopenO fs r gs c = O) : nopen fs r gs c = O.getD [] := by unfold nopen; rw [h]
set_option maxHeartbeats 4000000 in
set_option maxRecDepth 100000 in
theorem implNewlyOpen_e {lo lo' : Nat} {fs gs : List Ft} {R : List Bx} {r c q : Bool} {u v : Value} {w : World} (hs : Fts lo w u fs) (hu : Fts lo' w v gs) (ht : Tab w) (h : nopen fs r gs c = R) (hq : (nopenO fs r gs c).isSome = q) :
    Calls Tryd.prog 35 #[u, .bool r, v, .bool c] w fun e w' => ∃ v', e = .returned (.tuple #[v', .bool q]) ∧ GBs w' w.heap.size w'.heap.size v' R ∧ Below w.heap.size w w' := by
  have HR := Lib.hid h
  have HQ := Lib.hid hq
  have HS := Lib.hid hs
  have HU := Lib.hid hu
  have HT := Lib.hid ht
  have HGD := Lib.hid (show (∀ z ∈ R, bvalid z = true) ∧ R.length ≤ 400 by rw [← h]; exact nopen_good fs r gs c)
  have HZ := Lib.hid (fun (hn : nopenO fs r gs c = none) => (show R = [] ∧ q = false from ⟨by rw [← HR.out, nopen_eq hn]; rfl, by rw [← HQ.out, hn]; rfl⟩))
  obtain ⟨fa, hfa⟩ : ∃ fa, fvalid fs = fa := ⟨_, rfl⟩
  obtain ⟨fb, hfb⟩ : ∃ fb, fvalid gs = fb := ⟨_, rfl⟩
  clear h hq hs hu ht
  go_enter Tryd.func35, Tryd.ntmps35
  cases fa
  · obtain ⟨rfl, rfl⟩ := HZ.out (nopenO_no (.inl (fparts_inv hfa)))
    go_wp2_with fail
    refine (implFV_b HS.out HT.out hfa).mono ?_
    rintro e w1 ⟨rfl, hb1⟩
    go_wp2
    go_ret2
    exact ⟨_, rfl, GBs.nil _ hb1.size, hb1⟩
  · go_wp2_with fail
    refine (implFV_b HS.out HT.out hfa).mono ?_
    rintro e w1 ⟨rfl, hb1⟩
    cases fb
    · obtain ⟨rfl, rfl⟩ := HZ.out (nopenO_no (.inr (fparts_inv hfb)))
      go_wp2_with fail
      refine (implFV_b (HU.out.below hb1) (HT.out.below hb1) hfb).mono ?_
      rintro e w2 ⟨rfl, hb2⟩
      have hw2 := hb1.trans (hb2.mono hb1.size)
      go_wp2
      go_ret2
      exact ⟨_, rfl, GBs.nil _ hw2.size, hw2⟩
    · have HVA := Lib.hid hfa
      have HVB := Lib.hid hfb
      go_wp2_with fail
      refine (implFV_b (HU.out.below hb1) (HT.out.below hb1) hfb).mono ?_
      rintro e w2 ⟨rfl, hb2⟩
      have hw2 := hb1.trans (hb2.mono hb1.size)
      clear hfa hfb hb1 hb2
      go_wp2_with fail
      refine (flatsOf_any fs u _ (HS.out.below hw2) (fvalid_four HVA.out) (fvalid_len HVA.out)).mono ?_
      rintro e w3 ⟨z3, rfl, ho3, hb3⟩
      have hw3 := hw2.trans (hb3.mono hw2.size)
      have HO3 := Lib.hid ho3
      clear hb3 ho3
      go_wp2_with fail
      refine (flatsOf_any gs v _ (HU.out.below hw3) (fvalid_four HVB.out) (fvalid_len HVB.out)).mono ?_
      rintro e w4 ⟨z4, rfl, ho4, hb4⟩
      have hw4 := hw3.trans (hb4.mono hw3.size)
      replace HO3 := Lib.hid (HO3.out.below hb4)
      have HO4 := Lib.hid ho4
      clear hb4 ho4
      go_wp2_with fail
      refine (openedBy_any fs gs r c z3 z4 w4 (HT.out.below hw4) HO3.out HO4.out HVA.out HVB.out).mono ?_
      obtain ⟨O, hO⟩ : ∃ O, nopenO fs r gs c = O := ⟨_, rfl⟩
      have HO := Lib.hid hO
      rw [hO]
      rintro e w5 ⟨za, zn, zc, rfl, hres, hb5⟩
      have hw5 := hw4.trans (hb5.mono hw4.size)
      have HRES := Lib.hid hres
      clear hb5 hres hO
      cases O with
      | none =>
        obtain ⟨rfl, rfl⟩ := HZ.out HO.out
        rw [show (none : Option (List Bx)).isSome = false from rfl]
        go_wp2
        go_ret2
        exact ⟨_, rfl, GBs.nil _ hw5.size, hw5⟩
      | some l =>
        obtain rfl : l = R := by rw [← HR.out, nopen_eq HO.out]; rfl
        have hq0 : q = true := by rw [← HQ.out, HO.out]; rfl
        subst hq0
        have hz := HRES.out l rfl
        rw [show (some l : Option (List Bx)).isSome = true from rfl]
        go_wp2_with fail
        refine (boxesOf_own l _ _ hz (by have := HGD.out.2; omega) (fun k b hb j xs hx => by have := bvalid_lens (HGD.out.1 b (List.mem_of_getElem? hb)) j xs hx; omega)).mono ?_
        rintro e w6 ⟨v6, rfl, ho6, hb6⟩
        have hw6 := hw5.trans (hb6.mono hw5.size)
        have HO6 := Lib.hid (OwnG.low ho6 hw5.size)
        clear ho6 hb6 hz
        go_wp2
        go_ret2
        exact ⟨_, rfl, HO6.out, hw6⟩
/-- All but block g is as it was. -/
def KG (g : Nat) (w w' : World) : Prop := w.heap.size ≤ w'.heap.size ∧ ∀ k, k < w.heap.size → k ≠ g → w'.heap[k]? = w.heap[k]?
theorem KG.refl (g : Nat) (w : World) : KG g w w := ⟨Nat.le_refl _, fun _ _ _ => rfl⟩
theorem KG.below {g : Nat} {w w1 w2 : World} (h : KG g w w1) (hb : Below w1.heap.size w1 w2) : KG g w w2 := ⟨Nat.le_trans h.1 hb.size, fun k k1 k2 => (hb.block k (Nat.lt_of_lt_of_le k1 h.1)).trans (h.2 k k1 k2)⟩
theorem KG.grown {g : Nat} {w w1 w2 : World} {o : Option Nat} (h : KG g w w1) (hg : w1.grownBy w2 o) (ho : ∀ z, o = some z → z = g ∨ w.heap.size ≤ z) : KG g w w2 := ⟨Nat.le_trans h.1 hg.size, fun k k1 k2 => (hg.block k (Nat.lt_of_lt_of_le k1 h.1) (fun e => by
  rcases ho k e.symm with h | h
  · exact k2 h
  · omega)).trans (h.2 k k1 k2)⟩
theorem BxsV.keepG {g : Nat} {w w' : World} {v : Value} {bs : List Bx} (h : BxsV (fun k => k = g) w v bs) (hk : KG g w w') : BxsV (fun _ => False) w' v bs := h.keep hk.1 (fun k k1 k2 => ⟨hk.2 k k1 k2, fun e => e⟩)
theorem SlV.away {α : Type} {sz : Nat} {enc : α → List Value} {w : World} {v : Value} {xs : List α} {g lo : Nat} (h : SlFr lo sz enc w v xs) (hsz : ∀ x, enc x ≠ []) (hg : ∀ o, w.cell? ⟨g, o, none⟩ = none) : SlV (fun k => k = g) sz enc w v xs := by
  refine ⟨h.mono (Nat.zero_le _), fun q n c e hne hp => ?_⟩
  obtain ⟨a, cap, rfl, h1, h2, hx⟩ := h
  obtain ⟨x, hx0⟩ : ∃ x, xs[0]? = some x := ⟨_, List.getElem?_eq_getElem (List.length_pos_iff.2 hne)⟩
  obtain ⟨b, o, ha, h3, h4, hc⟩ := hx 0 x hx0
  subst ha
  obtain ⟨e1, -, -⟩ := Value.slice.inj e
  cases e1
  obtain ⟨y, hy⟩ : ∃ y, (enc x)[0]? = some y := ⟨_, List.getElem?_eq_getElem (List.length_pos_iff.2 (hsz x))⟩
  have h5 := hc 0 y hy
  simp only at hp
  rw [hp, hg] at h5
  cases h5
theorem Bxs.away {w : World} {v : Value} {bs : List Bx} {g lo : Nat} (h : Bxs lo w v bs) (hg : ∀ o, w.cell? ⟨g, o, none⟩ = none) : BxsV (fun k => k = g) w v bs := by
  obtain ⟨vs, h1, h2⟩ := h
  refine ⟨vs, SlV.away h1 (fun _ => by simp [enc1]) hg, h2.mono (fun r b h3 => ?_)⟩
  obtain ⟨us, h4, h5⟩ := h3
  exact ⟨us, SlV.away h4 (fun _ => by simp [enc1]) hg, h5.mono (fun _ _ h6 => (SlV.away h6 (fun _ => by simp [Sp.enc]) hg : SlV _ 2 Sp.enc w _ _))⟩
theorem l10Meet_v {lo lo' : Nat} {a b c : Bx} {u v : Value} {w : World} (h : bmeet a b = c) (hs : Rws lo w u a) (ht : Rws lo' w v b) (ha : bvalid a = true) (hb : bvalid b = true) :
    Calls Tryd.prog 86 #[.agg #[u], .agg #[v]] w fun e w' => ∃ v', e = .returned (.agg #[v']) ∧ Rws w.heap.size w' v' c ∧ Below w.heap.size w w' := by
  subst h
  refine (l10Meet_any a b u v w hs ht (bvalid_four ha).1 (bvalid_four hb).1 (bvalid_len2 ha) (bvalid_len2 hb)).mono ?_
  rintro e w' ⟨v', rfl, h1, h2⟩
  exact ⟨v', rfl, GRw.rws h1, h2⟩
theorem bx_append1h {X : Nat → Prop} {lo : Nat} {w : World} {v s : Value} {bs : List Bx} {b : Bx} (ty : TypeId) (ho : BxX X lo w v bs) (hs : RwV (fun k => some k = v.ownBlock ∨ X k) w s b) (hb : bs.length ≤ 1000000) (hlo : lo ≤ w.heap.size) :
    ∃ v' w', (Builtin.append_ #[30, 30] ty #[v, .slice (some ⟨w.heap.size, 0, none⟩) 1 1]).run Tryd.prog (w.alloc (.cells #[s] 58)) = .ok v' w' ∧ BxX X lo w' v' (bs ++ [b]) ∧ (∀ z, v'.ownBlock = some z → v.ownBlock = some z ∨ z = (w.alloc (.cells #[s] 58)).heap.size) ∧ (w.alloc (.cells #[s] 58)).grownBy w' v.ownBlock := by
  obtain ⟨i0, hi, hy0, hy1, hy2⟩ := info_parts infoBx
  have hal : Below w.heap.size w (w.alloc (.cells #[s] 58)) := (Below.refl _ _).alloc (Nat.le_refl _) _
  have ho' := ho.below hal
  obtain ⟨vs, g1, g2⟩ := ho
  obtain ⟨a, c, hf, -, -⟩ := hs.rws.form
  have e1 := g2.1
  obtain ⟨v', w', hrun, hown, hgr, hat⟩ := own_append_all (sz := 1) (enc := enc1) (by omega) (fun _ => rfl) (P := Tryd.prog) (w := w.alloc (.cells #[s] 58)) 30 ty 58 i0 _ 24 Tryd.underlying30 hi hy0 hy1 hy2 rfl (zs := [s]) (by rw [hf]; simp [Value.oneCell']) (OwnSl.kept g1 hal) (litBx_at w s 58) (by simp; omega) (by simp only [maxLen, List.length_singleton]; omega) (Nat.le_trans hlo hal.size)
  refine ⟨v', w', hrun, ?_, hat, hgr⟩
  exact BxX.push (H := (w.alloc (.cells #[s] 58)).heap.size) (w := w.alloc (.cells #[s] 58)) (g2.mono (fun _ _ g => g.below hal)) ((All2.nil).snoc (hs.below hal)) (grown_self hgr) hat (Nat.le_refl _) hown
theorem brow_len (f : Bx) (B : List Bx) : (brow f B).length ≤ B.length := by
  unfold brow
  have := List.length_filter_le (fun m => !bempty m) (B.map (bmeet f))
  rwa [List.length_map] at this
theorem bopen_len : ∀ (A B : List Bx), (bopen A B).length ≤ A.length * B.length
  | [], B => by simp [bopen]
  | a :: A, B => by
    have h1 := bopen_len A B
    have h2 := brow_len a B
    have h3 : bopen (a :: A) B = brow a B ++ bopen A B := by unfold bopen brow; rw [List.flatMap_cons]
    rw [h3, List.length_append, List.length_cons, Nat.succ_mul]
    omega
set_option maxHeartbeats 8000000 in
set_option maxRecDepth 100000 in
theorem specNewlyOpen_e {lo lo' : Nat} {fs gs : List Ft} {R : List Bx} {r c q : Bool} {u v : Value} {w : World} (hs : Fts lo w u fs) (hu : Fts lo' w v gs) (hN : ftN fs ≤ 1048576) (hN2 : ftN gs ≤ 1048576) (h : nopen fs r gs c = R) (hq : (nopenO fs r gs c).isSome = q) :
    Calls Tryd.prog 34 #[u, .bool r, v, .bool c] w fun e w' => ∃ v', e = .returned (.tuple #[v', .bool q]) ∧ Bxs 0 w' v' R ∧ Below w.heap.size w w' := by
  have HR := Lib.hid h
  have HQ := Lib.hid hq
  have HZ := Lib.hid (fun (hn : nopenO fs r gs c = none) => (show R = [] ∧ q = false from ⟨by rw [← HR.out, nopen_eq hn]; rfl, by rw [← HQ.out, hn]; rfl⟩))
  have HU := Lib.hid hu
  have HNN := Lib.hid (And.intro hN hN2)
  obtain ⟨qx, hqx⟩ : ∃ b, (fparts fs r).isSome = b := ⟨_, rfl⟩
  obtain ⟨qy, hqy⟩ : ∃ b, (fparts gs c).isSome = b := ⟨_, rfl⟩
  have HQX := Lib.hid hqx
  have HQY := Lib.hid hqy
  obtain ⟨A, hA⟩ : ∃ A, fpart fs r false = A := ⟨_, rfl⟩
  obtain ⟨B, hB⟩ : ∃ B, fpart gs c true = B := ⟨_, rfl⟩
  have HAV := Lib.hid (show BV2 A by rw [← hA]; exact (fpart_good fs r _).1)
  have HBV := Lib.hid (show BV2 B by rw [← hB]; exact (fpart_good gs c _).1)
  have HA := Lib.hid hA
  have HB := Lib.hid hB
  have hn4 : A.length ≤ 400 := by rw [← hA]; exact (fpart_good fs r _).2
  have hm4 : B.length ≤ 400 := by rw [← hB]; exact (fpart_good gs c _).2
  clear h hq hu hN2 hqx hqy hA hB
  go_enter Tryd.func34, Tryd.ntmps34
  go_wp2_with fail
  refine (ownFlats_any fs _ _ hs hN).mono ?_
  rintro e w1 ⟨v1, rfl, ho1, hb1⟩
  have HS1 := Lib.hid ho1.fts
  clear hs ho1
  go_wp2_with fail
  refine (ownFlats_any gs _ _ (HU.out.below hb1) HNN.out.2).mono ?_
  rintro e w2 ⟨v2, rfl, ho2, hb2⟩
  have hw2 := hb1.trans (hb2.mono hb1.size)
  have hal : Below w2.heap.size w2 (w2.alloc (.cells #[] 58)) := (Below.refl _ _).alloc (Nat.le_refl _) _
  have HS2 := Lib.hid ((HS1.out.below hb2).below hal)
  have HU2 := Lib.hid (ho2.fts.below hal)
  have hwA := hw2.trans (hal.mono hw2.size)
  have HO0 := Lib.hid (show BxX (fun _ => False) w2.heap.size (w2.alloc (.cells #[] 58)) (.slice (some ⟨w2.heap.size, 0, none⟩) 0 0) [] from ⟨[], litOwn 58 1 enc1 (Nat.le_refl _), All2.nil⟩)
  have HE0 := Lib.hid (show ∀ o, (w2.alloc (.cells #[] 58)).cell? ⟨w2.heap.size, o, none⟩ = none from fun o => by simp)
  have hzA : (w2.alloc (.cells #[] 58)).heap.size = w2.heap.size + 1 := by simp
  clear hb1 hb2 ho2 hal HS1
  go_wp2_with fail
  obtain ⟨WA, hWA⟩ : ∃ W, w2.alloc (.cells #[] 58) = W := ⟨_, rfl⟩
  rw [hWA] at HS2 HU2 hwA HO0 HE0 hzA ⊢
  clear hWA
  refine (specFlatParts_e HS2.out HNN.out.1 HA.out HQX.out).mono ?_
  rintro e w3 ⟨z3, rfl, ho3, hb3⟩
  have HX3 := Lib.hid ho3
  clear ho3
  go_wp2_with fail
  refine (specFlatParts_e (HU2.out.below hb3) HNN.out.2 HB.out HQY.out).mono ?_
  rintro e w4 ⟨z4, rfl, ho4, hb4⟩
  have hb34 := hb3.trans (hb4.mono hb3.size)
  have hz34 := hb34.size
  have hw4 := hwA.trans (hb34.mono hwA.size)
  have HX4 := Lib.hid (HX3.out.below hb4)
  have HY4 := Lib.hid ho4
  have HO4 := Lib.hid (HO0.out.below hb34)
  clear ho4 hb3 hb4 HX3 HS2 HU2 HO0
  by_cases hqq : qx = true ∧ qy = true
  · obtain ⟨rfl, rfl⟩ := hqq
    have HE4 := Lib.hid (show ∀ o, w4.cell? ⟨w2.heap.size, o, none⟩ = none from fun o => (hb34.cell (p := ⟨w2.heap.size, o, none⟩) (by simp only; omega)).trans (HE0.out o))
    have HXV := Lib.hid (HX4.out.away HE4.out)
    have HYV := Lib.hid (HY4.out.away HE4.out)
    have HRE := Lib.hid (show nopenO fs r gs c = if rvalid (bopen A B) then some (bopen A B) else none by
      obtain ⟨x, hx⟩ := Option.isSome_iff_exists.1 HQX.out
      obtain ⟨y, hy⟩ := Option.isSome_iff_exists.1 HQY.out
      unfold nopenO
      rw [hx, hy, ← HA.out, ← HB.out, fpart_yes hx, fpart_yes hy])
    obtain ⟨xa, xc, rfl, -, -⟩ := HX4.out.form
    obtain ⟨ya, yc, rfl, -, -⟩ := HY4.out.form
    obtain ⟨n, hn⟩ : ∃ n, A.length = n := ⟨_, rfl⟩
    obtain ⟨m, hm⟩ : ∃ m, B.length = m := ⟨_, rfl⟩
    have HNA := Lib.hid hn
    have HMB := Lib.hid hm
    rw [hn] at HXV hn4 ⊢
    rw [hm] at HYV hm4 ⊢
    have hg24 : w2.heap.size < w4.heap.size := by omega
    clear hn hm HX4 HY4 HE4 HE0 hb34
    go_wp2_with fail
    go_loopw [10, 15, 16, 17] (fun o i _ _ wr => ∃ k : Nat, k ≤ n ∧ i = .int .i64 k ∧ Hid (BxX (fun _ => False) w2.heap.size wr o (bopen (A.take k) B)) ∧ Hid (∀ z, o.ownBlock = some z → z = w2.heap.size ∨ w4.heap.size ≤ z) ∧ Hid (KG w2.heap.size w4 wr) ∧ Below w.heap.size w wr) (fun _ i _ _ _ => n - (intOf i).toNat)
    case atStart => exact ⟨0, by omega, rfl, Lib.hid (by simpa [bopen] using HO4.out), Lib.hid (fun z hz => by simp [Value.ownBlock] at hz; exact .inl hz.symm), Lib.hid (KG.refl _ _), hw4⟩
    case round =>
      clear HO4
      obtain ⟨k, hk, rfl, HO, HNO, hKK, hbr⟩ := hrel
      generalize wr = wo at *
      by_cases hkt : k < n
      · have j1 : (k : Int) < (n : Int) := by omega
        have j2 : (0 : Int) ≤ (k : Int) := by omega
        obtain ⟨f, hf⟩ : ∃ f, A[k]? = some f := ⟨_, List.getElem?_eq_getElem (by rw [HNA.out]; exact hkt)⟩
        have HF := Lib.hid hf
        have HFV := Lib.hid (HAV.out f (List.mem_of_getElem? hf))
        have HSU := Lib.hid (bopen_succ (B := B) hf)
        clear hf
        go_wp2_with fail
        go_loopw [10, 16, 17] (fun o i _ wr => ∃ j : Nat, j ≤ m ∧ i = .int .i64 j ∧ Hid (BxX (fun _ => False) w2.heap.size wr o (bopen (A.take k) B ++ brow f (B.take j))) ∧ Hid (∀ z, o.ownBlock = some z → z = w2.heap.size ∨ w4.heap.size ≤ z) ∧ Hid (KG w2.heap.size w4 wr) ∧ Below w.heap.size w wr) (fun _ i _ _ => m - (intOf i).toNat)
        case atStart => exact ⟨0, by omega, rfl, Lib.hid (by simpa [brow] using HO.out), HNO, hKK, hbr⟩
        case round =>
          clear HO HNO hKK
          obtain ⟨j, hj, rfl, HOJ, HNJ, hKJ, hbj⟩ := hrel
          have hzj := hbj.size
          by_cases hjt : j < m
          · have j3 : (j : Int) < (m : Int) := by omega
            have j4 : (0 : Int) ≤ (j : Int) := by omega
            obtain ⟨g, hy⟩ : ∃ g, B[j]? = some g := ⟨_, List.getElem?_eq_getElem (by rw [HMB.out]; exact hjt)⟩
            have HXJ := Lib.hid (HXV.out.keepG hKJ.out).bxs
            have HYJ := Lib.hid (HYV.out.keepG hKJ.out).bxs
            obtain ⟨b1, o1, sv, rfl, hb1l, d1, hsv⟩ := HXJ.out.at HF.out
            obtain ⟨b2, o2, tv, rfl, hb2l, d2, htv⟩ := HYJ.out.at hy
            have HSF := Lib.hid hsv
            have HSG := Lib.hid htv
            have HG := Lib.hid hy
            have HGV := Lib.hid (HBV.out g (List.mem_of_getElem? hy))
            obtain ⟨M, hM⟩ : ∃ M, bmeet f g = M := ⟨_, rfl⟩
            have HM := Lib.hid hM
            have HLN := Lib.hid (show M = [] ∨ 2 ≤ M.length from .inr (by rw [← hM, bmeet_len (bvalid_iff.1 HFV.out).1 (bvalid_iff.1 HGV.out).1]; omega))
            have HBS := Lib.hid (brow_succ (f := f) hy)
            obtain ⟨oa, oc, rfl⟩ := HOJ.out.form
            have HOL := Lib.hid (fun q (hq : some q = (Value.slice oa (bopen (A.take k) B ++ brow f (B.take j)).length oc).ownBlock) => by
              obtain ⟨vs, g1, _⟩ := HOJ.out
              exact World.ownsRow.lt g1 q hq.symm)
            obtain ⟨L, hL⟩ : ∃ L, bopen (A.take k) B ++ brow f (B.take j) = L := ⟨_, rfl⟩
            have HLL := Lib.hid hL
            rw [hL] at HOJ HOL HNJ ⊢
            have hLn : L.length ≤ 200000 := by
              have h1 := bopen_len (A.take k) B
              have h2 := brow_len f (B.take j)
              rw [← hL, List.length_append]
              have h3 : (A.take k).length ≤ 400 := by rw [List.length_take]; omega
              have h4 : (B.take j).length ≤ 400 := by rw [List.length_take]; omega
              have h5 : B.length ≤ 400 := by rw [HMB.out]; exact hm4
              have h6 : (A.take k).length * B.length ≤ 400 * 400 := Nat.mul_le_mul h3 h5
              omega
            clear hy hsv htv hM hL
            go_wp2_with fail
            refine wp_region_turn2 (W := wr) 10 [BIs (.slice (some ⟨b1, o1, none⟩) n xc), BIs (.int .i64 (k : Int)), BIs (.pointer (some ⟨b1, o1 + k, none⟩)), BIs (.agg #[sv]), BIs (.slice (some ⟨b2, o2, none⟩) m yc), BIs (.int .i64 (j : Int)), BIs (.pointer (some ⟨b2, o2 + j, none⟩)), BIs (.agg #[tv]), (fun w v => ∃ z, v = .agg #[z] ∧ RwV (fun q => some q = (Value.slice oa L.length oc).ownBlock ∨ False) w z M), (BP wr)] (bof [BIs (.slice (some ⟨b1, o1, none⟩) n xc), BIs (.int .i64 (k : Int)), BIs (.pointer (some ⟨b1, o1 + k, none⟩)), BIs (.agg #[sv]), BIs (.slice (some ⟨b2, o2, none⟩) m yc), BIs (.int .i64 (j : Int)), BIs (.pointer (some ⟨b2, o2 + j, none⟩)), BIs (.agg #[tv]), (fun _ _ => True), (BQV (fun q => some q = (Value.slice oa L.length oc).ownBlock ∨ False) M wr), (fun _ _ => True)]) (by kernel_rfl) (by decide) (fun u => by simp only [frU, Act.put, List.setIfInBounds_toArray, List.set_cons_succ, List.set_cons_zero, Nat.zero_add, Nat.reduceAdd]; exact rfl) (by kernel_rfl) ⟨bst_is _, bst_is _, bst_is _, bst_is _, bst_is _, bst_is _, bst_is _, bst_is _, (fun _ _ _ hb ⟨z, h1, h2⟩ => ⟨z, h1, h2.below hb⟩), (bst_bp _), trivial⟩ ?_ ?_; (exact ⟨stT rfl (by decide) (by kernel_rfl) (fun u w3 hC hd hI Q K hK => by (go_step; exact hK _ _ rfl (Below.refl _ _) rfl)), stT rfl (by decide) (by kernel_rfl) (fun u w3 hC hd hI Q K hK => by (go_step; exact hK _ _ rfl (Below.refl _ _) rfl)), stT rfl (by decide) (by kernel_rfl) (fun u w3 hC hd hI Q K hK => by (have hu := bis (w := w3) (hd 0 rfl); rw [hu] at hK ⊢; clear hu; have hu := bis (w := w3) (hd 1 rfl); rw [hu] at hK ⊢; clear hu; go_step; exact hK _ _ rfl (Below.refl _ _) rfl)), stT rfl (by decide) (by kernel_rfl) (fun u w3 hC hd hI Q K hK => by (have hu := bis (w := w3) (hd 2 rfl); rw [hu] at hK ⊢; clear hu; have z0 := (hC.cell (p := ⟨b1, o1 + k, none⟩) hb1l).trans d1; go_step; exact hK _ _ rfl (Below.refl _ _) rfl)), stT rfl (by decide) (by kernel_rfl) (fun u w3 hC hd hI Q K hK => by (go_step; exact hK _ _ rfl (Below.refl _ _) rfl)), stT rfl (by decide) (by kernel_rfl) (fun u w3 hC hd hI Q K hK => by (go_step; exact hK _ _ rfl (Below.refl _ _) rfl)), stT rfl (by decide) (by kernel_rfl) (fun u w3 hC hd hI Q K hK => by (have hu := bis (w := w3) (hd 4 rfl); rw [hu] at hK ⊢; clear hu; have hu := bis (w := w3) (hd 5 rfl); rw [hu] at hK ⊢; clear hu; go_step; exact hK _ _ rfl (Below.refl _ _) rfl)), stT rfl (by decide) (by kernel_rfl) (fun u w3 hC hd hI Q K hK => by (have hu := bis (w := w3) (hd 6 rfl); rw [hu] at hK ⊢; clear hu; have z0 := (hC.cell (p := ⟨b2, o2 + j, none⟩) hb2l).trans d2; go_step; exact hK _ _ rfl (Below.refl _ _) rfl)), stT rfl (by decide) (by kernel_rfl) (fun u w3 hC hd hI Q K hK => by (have hu := bis (w := w3) (hd 3 rfl); rw [hu] at hK ⊢; clear hu; have hu := bis (w := w3) (hd 7 rfl); rw [hu] at hK ⊢; clear hu; go_step; refine (l10Meet_v HM.out (HSF.out.below hC) (HSG.out.below hC) HFV.out HGV.out).mono ?_; rintro e w4 ⟨z4, rfl, ho4, hb4⟩; exact hK _ _ rfl hb4 ⟨z4, rfl, RwV.high ho4 (fun q hq => hq.elim (fun e => Nat.lt_of_lt_of_le (HOL.out q e).2 hC.size) (fun e => e.elim))⟩)), stT rfl (by decide) (by kernel_rfl) (fun u w3 hC hd hI Q K hK => by (go_step; exact hK _ _ rfl ((Below.refl _ _).alloc (Nat.le_refl _) _) (BP.new _ hC.size))), stTt rfl (by decide) (fun u w3 hC hd Q K hK => by (dsimp only at hK ⊢; obtain ⟨qq, hu, hq1, hq2, hqf, hqo⟩ := hd 9 rfl; rw [hu] at hK ⊢; have hkeep := hu; clear hu; obtain ⟨z, hu, hz⟩ := hd 8 rfl; rw [hu] at hK ⊢; clear hu; have e0 := hqf 0; have e1 := hqo.1; obtain ⟨a0, c0, rfl, -, -⟩ := hz.rws.form; go_step; have hQ := BQV.mk1 hC hq1 hq2 hqf hqo HLN.out hz; refine hK _ _ rfl (fun j hj h => ?_) ?_; (match j, hj, h with | 0, _, h => exact h | 1, _, h => exact h | 2, _, h => exact h | 3, _, h => exact h | 4, _, h => exact h | 5, _, h => exact h | 6, _, h => exact h | 7, _, h => exact h | 8, _, _ => exact trivial | 9, _, h => exact (show BQV (fun q => some q = (Value.slice oa L.length oc).ownBlock ∨ False) M wr _ _ by rw [hkeep]; exact hQ) | j + 10, hj, _ => exact absurd hj (by omega)); exact trivial)), trivial⟩); intro u w3 hF; rw [bis (w := w3) (hF 0 (by decide))]; rw [bis (w := w3) (hF 1 (by decide))]; rw [bis (w := w3) (hF 2 (by decide))]; rw [bis (w := w3) (hF 3 (by decide))]; rw [bis (w := w3) (hF 4 (by decide))]; rw [bis (w := w3) (hF 5 (by decide))]; rw [bis (w := w3) (hF 6 (by decide))]; rw [bis (w := w3) (hF 7 (by decide))]; have h8 := hF 9 (by decide); generalize u 9 = v8 at *; generalize u 8 = vx8 at *; generalize u 10 = vx10 at *; clear hF
            obtain ⟨q9, a9, n9, p9, rfl, hq1, hq2, g0, gf, hr3, hb3⟩ := h8
            have HR3 := Lib.hid hr3
            have hz3 := hb3.size
            obtain ⟨em, hem⟩ : ∃ em, bempty M = em := ⟨_, rfl⟩
            have HEM := Lib.hid hem
            clear hr3 d1 d2
            go_wp2_with fail
            refine (l10Empty_b HR3.out.rws hem).mono ?_
            rintro e w4' ⟨rfl, hb4⟩
            have hb44 := hb3.trans (hb4.mono hz3)
            have hz44 := hb44.size
            have HR4 := Lib.hid (HR3.out.below hb4)
            have k0 := (hb4.cell (p := ⟨q9, 0, none⟩) hq2).trans g0
            have hK4 := Lib.hid (hKJ.out.below hb44)
            have hw4' := hbj.trans (hb44.mono hbj.size)
            clear hem g0 gf
            have HO4' := Lib.hid (HOJ.out.below hb44)
            cases em
            · have HE2 := Lib.hid (show bopen (A.take k) B ++ brow f (B.take (j + 1)) = L ++ [M] by rw [HBS.out, HM.out, HEM.out, ← List.append_assoc, HLL.out]; rfl)
              obtain ⟨v7, w7, hrun, hG, hat, hgr⟩ := bx_append1h 30 HO4'.out HR4.out (by omega) (by have := hKJ.out.1; omega)
              have hal9 : Below w4'.heap.size w4' (w4'.alloc (.cells #[.slice a9 n9 p9] 58)) := (Below.refl _ _).alloc (Nat.le_refl _) _
              have hzK := hK4.out.1
              have hw2s := hw2.size
              have HG7 := Lib.hid (show BxX (fun _ => False) w2.heap.size w7 v7 (bopen (A.take k) B ++ brow f (B.take (j + 1))) by rw [HE2.out]; exact hG)
              have HN7 := Lib.hid (fun z (hz : v7.ownBlock = some z) => (show z = w2.heap.size ∨ w4.heap.size ≤ z from by
                rcases hat z hz with h | h
                · exact HNJ.out z h
                · simp at h; omega))
              have HK7 := Lib.hid ((hK4.out.below hal9).grown hgr HNJ.out)
              have hw7 : Below w.heap.size w w7 := (hw4'.trans (hal9.mono hw4'.size)).grown hgr (by have := hw4'.size; simp; omega) (fun z hz => by rcases HNJ.out z hz with h | h <;> omega)
              clear hG hgr hat
              go_wp2_with (at_builtin; refine wpList_append_run rfl _ _ 30 rfl rfl rfl hrun ?_)
              go_wp2
              go_roundw
              case rel => exact ⟨j + 1, by omega, by go_num, HG7, HN7, HK7, hw7⟩
              case measure => simp [intOf]; omega
            · have HE2 := Lib.hid (show brow f (B.take (j + 1)) = brow f (B.take j) by rw [HBS.out, HM.out, HEM.out]; simp)
              have HO5 := Lib.hid (show BxX (fun _ => False) w2.heap.size w4' (.slice oa L.length oc) (bopen (A.take k) B ++ brow f (B.take (j + 1))) by rw [HE2.out, HLL.out]; exact HO4'.out)
              go_wp2
              go_roundw
              case rel => exact ⟨j + 1, by omega, by go_num, HO5, HNJ, hK4, hw4'⟩
              case measure => simp [intOf]; omega
          · have HT2 := Lib.hid (show bopen (A.take (k + 1)) B = bopen (A.take k) B ++ brow f (B.take j) by rw [HSU.out, show B.take j = B from List.take_of_length_le (by rw [HMB.out]; omega)])
            go_wp2
            go_roundw
            case rel => exact ⟨k + 1, by omega, by go_num, by rw [HT2.out]; exact HOJ, HNJ, hKJ, hbj⟩
            case measure => simp [intOf]; omega
      · obtain rfl : k = n := by omega
        have HAL := Lib.hid (show A.take k = A from List.take_of_length_le (by rw [HNA.out]; omega))
        obtain ⟨oa, oc, rfl⟩ := HO.out.form
        have HO9 := Lib.hid (show BxX (fun _ => False) w2.heap.size wo (.slice oa (bopen (A.take k) B).length oc) (bopen A B) by
          have h := HO.out
          rw [HAL.out] at h ⊢
          exact h)
        generalize (bopen (A.take k) B).length = ol at *
        clear HO HNO HAL
        obtain ⟨rv, hrv⟩ : ∃ b, rvalid (bopen A B) = b := ⟨_, rfl⟩
        have HRV := Lib.hid hrv
        clear hrv
        go_wp2_with fail
        refine (specRV_b HO9.out.bxs HRV.out).mono ?_
        rintro e w9 ⟨rfl, hb9⟩
        have hw9 := hbr.trans (hb9.mono hbr.size)
        cases rv
        · obtain ⟨rfl, rfl⟩ := HZ.out (by rw [HRE.out, HRV.out]; rfl)
          go_wp2
          go_ret2
          exact ⟨_, rfl, BxX.bxs (X := fun _ => False) ⟨[], litOwn 58 1 enc1 (Nat.le_refl _), All2.nil⟩, hw9.alloc hw9.size _⟩
        · have HE8 := Lib.hid (show R = bopen A B ∧ q = true by
            have h1 : nopenO fs r gs c = some (bopen A B) := by rw [HRE.out, HRV.out]; rfl
            exact ⟨by rw [← HR.out, nopen_eq h1]; rfl, by rw [← HQ.out, h1]; rfl⟩)
          obtain ⟨rfl, rfl⟩ := HE8.out
          go_wp2
          go_ret2
          exact ⟨_, rfl, HO9.out.bxs.below hb9, hw9⟩
  · have HNO := Lib.hid (show nopenO fs r gs c = none by
      have h1 := HQX.out
      have h2 := HQY.out
      cases qx
      · exact nopenO_no (.inl (Option.not_isSome_iff_eq_none.1 (by rw [h1]; simp)))
      · cases qy
        · exact nopenO_no (.inr (Option.not_isSome_iff_eq_none.1 (by rw [h2]; simp)))
        · exact absurd ⟨rfl, rfl⟩ hqq)
    obtain ⟨rfl, rfl⟩ := HZ.out HNO.out
    cases qx <;> cases qy <;> first | exact absurd ⟨rfl, rfl⟩ hqq | (clear hqq; go_wp2; go_ret2; exact ⟨_, rfl, HO4.out.bxs, hw4⟩)
end Go.Proofs.YtibanpeiigbofaaDoor
