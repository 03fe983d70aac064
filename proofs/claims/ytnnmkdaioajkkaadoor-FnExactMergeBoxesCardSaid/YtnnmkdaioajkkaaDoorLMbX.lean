/- The exact law on MergeBoxes: marks of boxes; the walk. -/
import Derived.Test.YtnnmkdaioajkkaaDoorFnM
import Derived.Test.YtnnmkdaioajkkaaDoorRgC
import Derived.Test.YtnnmkdaioajkkaaDoorMbW
namespace Go.Proofs.YtnnmkdaioajkkaaDoor
open Go.RowKit
theorem bxcnt_of {b : Bx} (h : bxN b ≤ 1048576) : 1 + bxcnt b ≤ 2097153 := by have := bxcnt_le b; omega
theorem bx_he {b : Bx} (h : bxN b ≤ 1048576) : ∀ (k : Nat) xs, b[k]? = some xs → xs.length ≤ 1048576 := fun k xs hx => (bxN_bound h).2 k xs hx
/-- A block of one cell that holds nothing. -/
def One (w : World) (q : Nat) : Prop := w.cell? ⟨q, 0, none⟩ = some (.slice none 0 0) ∧ ∀ j, w.cell? ⟨q, j + 1, none⟩ = none
theorem One.below {w w' : World} {q : Nat} (h : One w q) (hq : q < w.heap.size) (hb : Below w.heap.size w w') : One w' q :=
  ⟨(hb.cell (p := ⟨q, 0, none⟩) hq).trans h.1, fun j => (hb.cell (p := ⟨q, j + 1, none⟩) hq).trans (h.2 j)⟩
theorem One.new (w : World) (ty : TypeId) : One (w.alloc (.cells #[.slice none 0 0] ty)) w.heap.size := ⟨by simp, fun j => by simp⟩
theorem OwnSl.setOne {α : Type} {base e sz : Nat} {enc : α → List Value} {w : World} {v : Value} {xs : List α} (h : OwnSl base e sz enc w v xs) {q : Nat} (s : Value) (hx : v.ownBlock = some q → xs.flatMap enc = []) : OwnSl base e sz enc (w.setCell ⟨q, 0, none⟩ s) v xs := by
  by_cases he : v.ownBlock = some q
  · have h0 := hx he
    rcases OwnSl.form h with ⟨rfl, rfl⟩ | ⟨g, cap, rfl, _⟩
    · cases he
    · have hg : g = q := by simpa [Value.ownBlock] using he
      subst hg
      have h1 := (World.ownsRow.stored h 0 s).1
      unfold OwnSl
      rw [h0] at h1 ⊢
      simpa using h1
  · exact OwnSl.keepB h (fun g g1 _ _ => Below.heap_setCell _ _ _ _ (fun e => he (by rw [g1, e])))
theorem PSp.setOne {w : World} {l h : Nat} {v : Value} {xs : List Sp} (hp : PSp w l h v xs) {q : Nat} (hq : One w q) (s : Value) : PSp (w.setCell ⟨q, 0, none⟩ s) l h v xs := by
  refine ⟨OwnSl.setOne hp.1 s (fun e => ?_), hp.2.1, hp.2.2⟩
  cases xs with
  | nil => rfl
  | cons x xs =>
    rcases OwnSl.form hp.1 with ⟨_, h0⟩ | ⟨g, cap, hv, _⟩
    · cases h0
    · subst hv
      have hg : g = q := by simpa [Value.ownBlock] using e
      subst hg
      have := OwnSl.cell (sz := 2) (enc := Sp.enc) (fun _ => rfl) hp.1 (k := 0) (y := x) rfl 0 _ rfl
      simp only [Nat.zero_mul, Nat.add_zero] at this
      rw [hq.1] at this
      cases this
theorem GRw.setOne {w : World} {lo hi : Nat} {v : Value} {b : Bx} (h : GRw w lo hi v b) {q : Nat} (hq : One w q) (s : Value) (hl : b = [] ∨ 2 ≤ b.length) : GRw (w.setCell ⟨q, 0, none⟩ s) lo hi v b := by
  obtain ⟨vs, h1, h2, h3, h4⟩ := h
  have hlen := h4.len
  refine ⟨vs, OwnSl.setOne h1 s (fun e => ?_), h2, h3, h4.imp (PSp.kind.leO w _) (fun l m x y _ _ g3 => ⟨PSp.setOne g3.1 hq s, g3.2⟩)⟩
  rcases hl with rfl | hl
  · rw [List.eq_nil_of_length_eq_zero hlen]; rfl
  · exfalso
    rcases OwnSl.form h1 with ⟨_, h0⟩ | ⟨g, cap, hv, _⟩
    · rw [h0] at hlen; simp at hlen; omega
    · subst hv
      have hg : g = q := by simpa [Value.ownBlock] using e
      subst hg
      obtain ⟨y, hy⟩ : ∃ y, vs[1]? = some y := ⟨_, List.getElem?_eq_getElem (by omega)⟩
      have := OwnSl.cell (sz := 1) (enc := enc1) (fun _ => rfl) h1 (k := 1) (y := y) hy 0 _ rfl
      simp only [Nat.mul_one, Nat.add_zero] at this
      rw [hq.2 0] at this
      cases this
theorem Rws.setOne {w : World} {lo : Nat} {v : Value} {b : Bx} (h : Rws lo w v b) {q : Nat} (hq : One w q) (s : Value) (hl : b = [] ∨ 2 ≤ b.length) : Rws lo (w.setCell ⟨q, 0, none⟩ s) v b := by
  obtain ⟨vs, ⟨a, cap, rfl, h1, h2, hx⟩, h3⟩ := h
  have hlen := h3.1
  refine ⟨vs, ⟨a, cap, rfl, h1, h2, fun k x hk => ?_⟩, h3.mono (fun _ _ g => Sps.ints g (by simp) (fun p n hp => ?_))⟩
  · obtain ⟨bb, o, ha, g1, g2, g3⟩ := hx k x hk
    refine ⟨bb, o, ha, g1, by simpa using g2, fun j u hj => ?_⟩
    have hne : bb ≠ q := fun e => by
      subst e
      have hk0 := (List.getElem?_eq_some_iff.1 hk).1
      rcases hl with rfl | hl
      · simp at hlen; simp [hlen] at hk
      · obtain ⟨y, hy⟩ : ∃ y, vs[1]? = some y := ⟨_, List.getElem?_eq_getElem (by omega)⟩
        obtain ⟨b2, o2, e2, _, _, g4⟩ := hx 1 y hy
        rw [ha] at e2
        obtain ⟨rfl, rfl, _⟩ := Addr.mk.inj (Option.some.inj e2)
        have := g4 0 _ rfl
        rw [show o + 1 * 1 + 0 = o + 1 from rfl, hq.2 o] at this
        cases this
    rw [World.cell?_setCell_other _ _ _ _ (fun e => hne (by rw [← (Addr.mk.inj e).1]))]
    exact g3 j u hj
  · have hne : p ≠ ⟨q, 0, none⟩ := fun e => by rw [e, hq.1] at hp; cases hp
    exact (World.cell?_setCell_other _ _ _ _ (Ne.symm hne)).trans hp
/-- A new block for a box. -/
def BP (W w : World) (v : Value) : Prop := ∃ q, v = .pointer (some ⟨q, 0, none⟩) ∧ W.heap.size ≤ q ∧ q < w.heap.size ∧ (∀ j, w.frozen? ⟨q, j, none⟩ = false) ∧ One w q
theorem bst_bp (W : World) : BStb (BP W) := fun _ _ _ hb ⟨q, h0, h1, h2, h3, h4⟩ =>
  ⟨q, h0, h1, Nat.lt_of_lt_of_le h2 hb.size, fun j => (hb.frozen (p := ⟨q, j, none⟩) h2).trans (h3 j), h4.below h2 hb⟩
theorem BP.new {W : World} (w : World) (h : W.heap.size ≤ w.heap.size) : BP W (w.alloc (.cells #[.slice none 0 0] 28)) (.pointer (some ⟨w.heap.size, 0, none⟩)) :=
  ⟨_, rfl, h, by simp, fun j => frz_new w _ _ j, One.new w _⟩
/-- The block behind the store: a box that is read, or one of the call's own. -/
def BQ (c : Bx) (W w : World) (v : Value) : Prop := ∃ q a n p, v = .pointer (some ⟨q, 0, none⟩) ∧ W.heap.size ≤ q ∧ q < w.heap.size ∧ w.cell? ⟨q, 0, none⟩ = some (.slice a n p) ∧ w.frozen? ⟨q, 0, none⟩ = false ∧ Rws 0 w (.slice a n p) c ∧ Below W.heap.size W w
def BG (c : Bx) (W w : World) (v : Value) : Prop := ∃ q a n p hi, v = .pointer (some ⟨q, 0, none⟩) ∧ W.heap.size ≤ q ∧ q < w.heap.size ∧ w.cell? ⟨q, 0, none⟩ = some (.slice a n p) ∧ w.frozen? ⟨q, 0, none⟩ = false ∧ GRw w W.heap.size hi (.slice a n p) c ∧ hi ≤ w.heap.size ∧ Below W.heap.size W w
theorem BQ.mk1 {c : Bx} {W w : World} {q : Nat} {a : Option Addr} {n p : Nat} (hC : Below W.heap.size W w) (h1 : W.heap.size ≤ q) (h2 : q < w.heap.size) (h3 : ∀ j, w.frozen? ⟨q, j, none⟩ = false) (h4 : One w q) (hl : c = [] ∨ 2 ≤ c.length) (hz : Rws 0 w (.slice a n p) c) :
    BQ c W (w.setCell ⟨q, 0, none⟩ (.slice a n p)) (.pointer (some ⟨q, 0, none⟩)) :=
  ⟨q, a, n, p, rfl, h1, by simpa using h2, World.cell?_setCell_same' _ _ _ (by rw [h4.1]; rfl), by rw [World.frozen?_setCell]; exact h3 0, hz.setOne h4 _ hl, hC.setCell h1 _⟩
theorem BG.mk1 {c : Bx} {W w : World} {q hi : Nat} {a : Option Addr} {n p : Nat} (hC : Below W.heap.size W w) (h1 : W.heap.size ≤ q) (h2 : q < w.heap.size) (h3 : ∀ j, w.frozen? ⟨q, j, none⟩ = false) (h4 : One w q) (hl : c = [] ∨ 2 ≤ c.length) (hz : GRw w W.heap.size hi (.slice a n p) c) (hh : hi ≤ w.heap.size) :
    BG c W (w.setCell ⟨q, 0, none⟩ (.slice a n p)) (.pointer (some ⟨q, 0, none⟩)) :=
  ⟨q, a, n, p, hi, rfl, h1, by simpa using h2, World.cell?_setCell_same' _ _ _ (by rw [h4.1]; rfl), by rw [World.frozen?_setCell]; exact h3 0, hz.setOne h4 _ hl, by simpa using hh, hC.setCell h1 _⟩
set_option maxHeartbeats 1000000 in
theorem markBox_any (lo hi : Nat) (b : Bx) (v : Value) (m : Nat) (w : World) (ho : GRw w lo hi v b) (hh : hi ≤ w.heap.size) (hN : m + bxcnt b ≤ 8388608) (he : ∀ (k : Nat) xs, b[k]? = some xs → xs.length ≤ 1048576) :
    Calls Tryd.prog 20 #[.agg #[v], .int .i64 (m : Int)] w fun e w' => e = .returned (.int .i64 ((m + bxcnt b : Nat) : Int)) ∧ GRw w' lo hi v (bxmark m b) ∧ Chg lo hi w w' := by
  obtain ⟨a, cap, rfl, hlc, hcm⟩ := ho.form
  generalize b.length = n at *
  have HO := Lib.hid ho
  have hlo := GRw.kind.1 _ _ _ _ _ ho
  clear ho
  have hk := Kpi.of (lo := lo) (hi := hi) ((Below.refl w.heap.size w).alloc (Nat.le_refl _) (.cells #[.slice a n cap] 28))
  have HO1 := Lib.hid (GRw.kind.keep _ _ _ _ _ _ HO.out hk)
  go_enter Tryd.func20, Tryd.ntmps20
  go_wp2_with fail
  refine (markSpanSS_any lo hi b _ m _ HO1.out (by simp; omega) hN he).mono ?_
  rintro e w1 ⟨rfl, ho1, hc1⟩
  have HR := Lib.hid ho1
  have HC := Lib.hid ((Chg.of lo ((Below.refl w.heap.size w).alloc (Nat.le_refl _) (.cells #[.slice a n cap] 28)) (by omega) hi).trans hc1)
  go_wp2
  go_ret
  exact ⟨ret_int rfl, HR.out, HC.out⟩
set_option maxHeartbeats 1000000 in
theorem heldBox_any {lo : Nat} (b : Bx) (v : Value) (m : Nat) (w : World) (hs : Rws lo w v (bxmark m b)) (hN : m + bxcnt b ≤ 8388608) (he : ∀ (k : Nat) xs, b[k]? = some xs → xs.length ≤ 1048576) :
    Calls Tryd.prog 21 #[.agg #[v], .int .i64 (m : Int)] w fun e w' => e = .returned (.int .i64 ((m + bxcnt b : Nat) : Int)) ∧ Below w.heap.size w w' := by
  obtain ⟨a, cap, rfl, hlc, hcm⟩ := hs.form
  rw [bxmark_len] at hs ⊢
  generalize b.length = n at *
  have hal : Below w.heap.size w (w.alloc (.cells #[.slice a n cap] 28)) := (Below.refl _ _).alloc (Nat.le_refl _) _
  have HS := Lib.hid (hs.below hal)
  obtain ⟨q, hq⟩ : ∃ q, m + bxcnt b = q := ⟨_, rfl⟩
  have HQ := Lib.hid hq
  have hp : ¬ (q : Int) < 0 := by omega
  rw [hq]
  clear hq hs
  go_enter Tryd.func21, Tryd.ntmps21
  go_wp2_with fail
  refine (heldSpanSS_any b _ m _ HS.out hN he).mono ?_
  rw [HQ.out]
  rintro e _ ⟨rfl, rfl⟩
  go_wp2
  go_ret
  exact ⟨rfl, hal⟩
set_option maxHeartbeats 4000000 in
set_option maxRecDepth 100000 in
theorem law_FnExactMergeBoxes (a b : Bx) (u v : Value) (w : World) (hs : Rws 0 w u a) (hu : Rws 0 w v b) (ht : Tab w) :
    Calls Tryd.prog 3 #[.agg #[u], .agg #[v]] w fun e w' => e = .returned (.bool true) ∧ Below w.heap.size w w' := by
  obtain ⟨ua, uc, rfl, -, -⟩ := hs.form
  obtain ⟨va, vc, rfl, -, -⟩ := hu.form
  generalize a.length = la at *
  generalize b.length = lb at *
  obtain ⟨R, hR⟩ : ∃ R, mergeV a b = R := ⟨_, rfl⟩
  have HR := Lib.hid hR
  have HV := Lib.hid (show ∀ c, R = some c → bvalid c = true from fun c hc => mergeV_valid (by rw [hR]; exact hc))
  obtain ⟨W, hW⟩ : ∃ W, (w.alloc (.cells #[.slice ua la uc] 24)).alloc (.cells #[.slice va lb vc] 24) = W := ⟨_, rfl⟩
  have hal : Below w.heap.size w W := by rw [← hW]; (repeat' (first | with_reducible exact Below.refl _ _ | with_reducible assumption | with_reducible refine Below.setCell ?_ ?_ _ | with_reducible refine Below.alloc ?_ ?_ _ | with_reducible refine Below.drew ?_ | with_reducible refine belDrewN ?_ _ | with_reducible refine Below.trans ?_ (Below.mono (by assumption) ?_) | omega | (simp; omega) | (simp; done)))
  have HA3 := alloc2_cells w #[.slice ua la uc] #[.slice va lb vc] 24 24
  rw [hW] at HA3
  have qs : W.heap.size = w.heap.size + 1 + 1 := by rw [← hW]; simp
  have q0 : W.cell? ⟨w.heap.size, 0, none⟩ = some (.slice ua la uc) := by rw [(HA3.1 0).1]; rfl
  have p0 : W.cell? ⟨w.heap.size + 1, 0, none⟩ = some (.slice va lb vc) := by rw [(HA3.2 0).1]; rfl
  have HQ := Lib.hid (show ∀ w', Below W.heap.size W w' → w'.cell? ⟨w.heap.size, 0, none⟩ = some (.slice ua la uc) from fun w' hb => (hb.cell (p := ⟨w.heap.size, 0, none⟩) (by simp only; omega)).trans q0)
  have HP := Lib.hid (show ∀ w', Below W.heap.size W w' → w'.cell? ⟨w.heap.size + 1, 0, none⟩ = some (.slice va lb vc) from fun w' hb => (hb.cell (p := ⟨w.heap.size + 1, 0, none⟩) (by simp only; omega)).trans p0)
  have S_a := Lib.hid (hs.below hal)
  have S_b := Lib.hid (hu.below hal)
  have HT := Lib.hid (ht.below hal)
  have hw0 : Below W.heap.size W W := Below.refl _ _
  clear HA3 hs hu ht hR
  have HLN := Lib.hid (show ∀ c, c = R.getD [] → c = [] ∨ 2 ≤ c.length by
    intro z hz
    cases hc : R with
    | none => rw [hc] at hz; exact .inl hz
    | some c => right; rw [hz, hc, Option.getD_some, (bvalid_four (HV.out c hc)).1]; omega)
  obtain ⟨l1, hl1⟩ : ∃ l, szOf 1048576 (bxN a) = l := ⟨_, rfl⟩
  have HL1 := Lib.hid hl1
  obtain ⟨l2, hl2⟩ : ∃ l, szOf l1 (bxN b) = l := ⟨_, rfl⟩
  have HL2 := Lib.hid hl2
  clear hl1 hl2
  go_enter Tryd.func3, Tryd.ntmps3
  go_wp2_with fail
  refine (szBox_any a _ 1048576 W S_a.out (by omega) (by omega)).mono ?_
  rw [HL1.out]
  rintro e w1 ⟨rfl, hb1⟩
  have hw1 : Below w.heap.size w w1 := hal.trans (hb1.mono hal.size)
  have z1 := hb1.size
  clear q0 p0 hW
  by_cases hn0 : l1 < 0
  · go_wp2
    go_ret
    exact ⟨rfl, hw1⟩
  have HN_a : Hid (bxN a ≤ 1048576) := Lib.hid (by have h := HL1.out; unfold szOf at h; split at h <;> omega)
  have l10 : 0 ≤ l1 ∧ l1 ≤ 1048576 := by have h := HL1.out; unfold szOf at h; split at h <;> omega
  have p1 := HP.out w1 hb1
  go_wp2_with fail
  refine (szBox_any b _ l1 w1 (S_b.out.below hb1) (by omega) (by omega)).mono ?_
  rw [HL2.out]
  rintro e w2 ⟨rfl, hb2'⟩
  have hb2 := hb1.trans (hb2'.mono z1)
  have hw2 : Below w.heap.size w w2 := hal.trans (hb2.mono hal.size)
  have z2 := hb2'.size
  clear p1 hb2' hw1
  by_cases hn1 : l2 < 0
  · go_wp2
    go_ret
    exact ⟨rfl, hw2⟩
  have HN_b : Hid (bxN b ≤ 1048576) := Lib.hid (by have h := HL2.out; unfold szOf at h; split at h <;> omega)
  have g_a := HQ.out w2 hb2
  have g_b := HP.out w2 hb2
  have HEA := Lib.hid (bx_he HN_a.out)
  have HEB := Lib.hid (bx_he HN_b.out)
  have HBA := Lib.hid (bxN_bound HN_a.out).1
  have HBB := Lib.hid (bxN_bound HN_b.out).1
  go_wp2_with fail
  refine wp_region_turn2 (W := w2) 9 [BIs (.agg #[.slice ua la uc]), (fun w v => ∃ z, v = .agg #[z] ∧ Rws 0 w z a), BIs (.agg #[.slice va lb vc]), (fun w v => ∃ z, v = .agg #[z] ∧ Rws 0 w z b), (fun w v => ∃ z, v = .tuple #[.agg #[z], .bool R.isSome] ∧ Rws 0 w z (R.getD [])), (fun w v => ∃ z, v = .tuple #[.agg #[z], .bool R.isSome] ∧ Rws 0 w z (R.getD [])), (fun w v => ∃ z, v = .agg #[z] ∧ Rws 0 w z (R.getD [])), BIs (.bool R.isSome), (BP w2)] (bof [BIs (.agg #[.slice ua la uc]), (fun _ _ => True), BIs (.agg #[.slice va lb vc]), (fun _ _ => True), (fun _ v => ∃ z, v = .tuple #[z, .bool R.isSome] ∧ True), (fun _ v => ∃ z, v = .tuple #[z, .bool R.isSome] ∧ True), (fun _ _ => True), BIs (.bool R.isSome), (BQ (R.getD []) w2), (fun _ _ => True), BIs (.bool R.isSome)]) (by kernel_rfl) (by decide) (fun u => by simp only [frU, Act.put, List.setIfInBounds_toArray, List.set_cons_succ, List.set_cons_zero, Nat.zero_add, Nat.reduceAdd]; exact rfl) (by kernel_rfl) ⟨bst_is _, (fun _ _ _ hb ⟨z, h1, h2⟩ => ⟨z, h1, h2.below hb⟩), bst_is _, (fun _ _ _ hb ⟨z, h1, h2⟩ => ⟨z, h1, h2.below hb⟩), (fun _ _ _ hb ⟨z, h1, h2⟩ => ⟨z, h1, h2.below hb⟩), (fun _ _ _ hb ⟨z, h1, h2⟩ => ⟨z, h1, h2.below hb⟩), (fun _ _ _ hb ⟨z, h1, h2⟩ => ⟨z, h1, h2.below hb⟩), bst_is _, (bst_bp _), trivial⟩ ?_ ?_; (exact ⟨stT rfl (by decide) (by kernel_rfl) (fun u w3 hC hd hI Q K hK => by (have z0 := HQ.out _ (hb2.trans (hC.mono hb2.size)); go_step; exact hK _ _ rfl (Below.refl _ _) rfl)), stT rfl (by decide) (by kernel_rfl) (fun u w3 hC hd hI Q K hK => by (have hu := bis (w := w3) (hd 0 rfl); rw [hu] at hK ⊢; clear hu; go_step; refine (toBox_any a _ _ (S_a.out.below (hb2.trans (hC.mono hb2.size))) HBA.out HEA.out).mono ?_; rintro e w4 ⟨z4, rfl, ho4, hb4⟩; exact hK _ _ rfl hb4 ⟨z4, rfl, ho4.g.rws.mono (Nat.zero_le _)⟩)), stT rfl (by decide) (by kernel_rfl) (fun u w3 hC hd hI Q K hK => by (have z0 := HP.out _ (hb2.trans (hC.mono hb2.size)); go_step; exact hK _ _ rfl (Below.refl _ _) rfl)), stT rfl (by decide) (by kernel_rfl) (fun u w3 hC hd hI Q K hK => by (have hu := bis (w := w3) (hd 2 rfl); rw [hu] at hK ⊢; clear hu; go_step; refine (toBox_any b _ _ (S_b.out.below (hb2.trans (hC.mono hb2.size))) HBB.out HEB.out).mono ?_; rintro e w4 ⟨z4, rfl, ho4, hb4⟩; exact hK _ _ rfl hb4 ⟨z4, rfl, ho4.g.rws.mono (Nat.zero_le _)⟩)), stT rfl (by decide) (by kernel_rfl) (fun u w3 hC hd hI Q K hK => by (obtain ⟨x0, hu, hx⟩ := hd 1 rfl; rw [hu] at hK ⊢; clear hu; obtain ⟨y0, hu, hy⟩ := hd 3 rfl; rw [hu] at hK ⊢; clear hu; go_step; refine (specMB_e hx hy HR.out).mono ?_; rintro e w4 ⟨z4, rfl, ho4, hb4⟩; exact hK _ _ rfl hb4 ⟨z4, rfl, ho4⟩)), stT rfl (by decide) (by kernel_rfl) (fun u w3 hC hd hI Q K hK => by (obtain ⟨z, hu, hz⟩ := hd 4 rfl; rw [hu] at hK ⊢; clear hu; go_step; exact hK _ _ rfl (Below.refl _ _) ⟨z, rfl, hz⟩)), stT rfl (by decide) (by kernel_rfl) (fun u w3 hC hd hI Q K hK => by (obtain ⟨z, hu, hz⟩ := hd 5 rfl; rw [hu] at hK ⊢; clear hu; go_step; exact hK _ _ rfl (Below.refl _ _) ⟨z, rfl, hz⟩)), stTf rfl (by decide) (fun u w3 hC hd Q K hK => by (obtain ⟨z, hu, hz⟩ := hd 5 rfl; rw [hu] at hK ⊢; clear hu; go_step; exact hK _ _ rfl (Below.refl _ _) rfl)) (fun u w3 hd Q K hK => by (dsimp only at hK ⊢; obtain ⟨z, hu, hz⟩ := hd 5 rfl; rw [hu] at hK ⊢; clear hu; go_step; exact hK _ rfl rfl)), stT rfl (by decide) (by kernel_rfl) (fun u w3 hC hd hI Q K hK => by (go_step; exact hK _ _ rfl ((Below.refl _ _).alloc (Nat.le_refl _) _) (BP.new _ hC.size))), stTt rfl (by decide) (fun u w3 hC hd Q K hK => by (dsimp only at hK ⊢; obtain ⟨qq, hu, hq1, hq2, hqf, hqo⟩ := hd 8 rfl; rw [hu] at hK ⊢; have hkeep := hu; clear hu; obtain ⟨z, hu, hz⟩ := hd 6 rfl; rw [hu] at hK ⊢; clear hu; have e0 := hqf 0; have e1 := hqo.1; obtain ⟨a0, c0, rfl, -, -⟩ := hz.form; go_step; have hQ := BQ.mk1 hC hq1 hq2 hqf hqo (HLN.out _ rfl) hz; refine hK _ _ rfl (fun j hj h => ?_) ?_; (match j, hj, h with | 0, _, h => exact h | 1, _, _ => exact trivial | 2, _, h => exact h | 3, _, _ => exact trivial | 4, _, h => exact (let ⟨z, g1, _⟩ := h; ⟨.agg #[z], g1, trivial⟩) | 5, _, h => exact (let ⟨z, g1, _⟩ := h; ⟨.agg #[z], g1, trivial⟩) | 6, _, _ => exact trivial | 7, _, h => exact h | 8, _, h => exact (show BQ (R.getD []) w2 _ _ by rw [hkeep]; exact hQ) | j + 9, hj, _ => exact absurd hj (by omega)); exact trivial)), stTb rfl (by decide) (by kernel_rfl) (fun u w3 hd Q K hK => by (dsimp only at hK ⊢; have hu := bis (w := w3) (hd 7 rfl); rw [hu] at hK ⊢; clear hu; go_step; exact hK _ rfl rfl)), trivial⟩); intro u w3 hF; rw [bis (w := w3) (hF 0 (by decide))]; rw [bis (w := w3) (hF 2 (by decide))]; rw [bis (w := w3) (hF 7 (by decide))]; have h8 := hF 8 (by decide); generalize u 8 = v8 at *; rw [bis (w := w3) (hF 10 (by decide))]; generalize u 1 = vx1 at *; generalize u 3 = vx3 at *; generalize u 4 = vx4 at *; generalize u 5 = vx5 at *; generalize u 6 = vx6 at *; generalize u 9 = vx9 at *; clear hF
  obtain ⟨q0, a0, n0, p0, rfl, hq1, hq2, c0, f0, hr3, hb3⟩ := h8
  have hb3W := hb2.trans (hb3.mono hb2.size)
  have hw3 := hal.trans (hb3W.mono hal.size)
  have HR3 := Lib.hid hr3
  have g3a := HQ.out w3 hb3W
  have g3b := HP.out w3 hb3W
  clear g_a g_b hr3 hw2 f0
  go_wp2_with fail
  refine (toBox_any a _ w3 (S_a.out.below hb3W) HBA.out HEA.out).mono ?_
  rintro e w4 ⟨x0, rfl, ho4, hb4⟩
  obtain ⟨xa, xc, rfl, -, -⟩ := ho4.g.form
  have hb4W := hb3W.trans (hb4.mono hb3W.size)
  have g4b := HP.out w4 hb4W
  have l4 : w.heap.size + 1 < w4.heap.size := by have := hb4W.size; omega
  clear g3a g3b
  have bW_w3 := hb3W
  have z_w3 : W.heap.size ≤ w3.heap.size := hb3W.size
  have z_w4 : w3.heap.size ≤ w4.heap.size := hb4.size
  have bW_w4 := hb4W
  have la_w4 := l4
  have q0c_w4 := (hb4.cell (p := ⟨q0, 0, none⟩) (by simp only; omega)).trans c0
  have bB : Below w3.heap.size w3 w4 := hb4
  have HX0 := Lib.hid ho4.g
  generalize a.length = na at *
  clear hb3 hb3W hb4 hb4W hw3 c0 l4 ho4
  go_wp2_with fail
  obtain ⟨w5, hqw5⟩ : ∃ x, w4.alloc (.cells #[.slice xa na xc] 28) = x := ⟨_, rfl⟩
  have hb_w5 : Below w4.heap.size w4 w5 := by rw [← hqw5]; exact (Below.refl _ _).alloc (Nat.le_refl _) _
  have X0c_w5 : w5.cell? ⟨w4.heap.size, 0, none⟩ = some (.slice xa na xc) := by rw [← hqw5]; simp
  have hs_w5 : w5.heap.size = w4.heap.size + 1 := by rw [← hqw5]; simp
  rw [hqw5]
  clear hqw5
  have z_w5 : w4.heap.size ≤ w5.heap.size := hb_w5.size
  have bW_w5 : Below W.heap.size W w5 := bW_w4.trans (hb_w5.mono bW_w4.size)
  have q0c_w5 := (hb_w5.cell (p := ⟨q0, 0, none⟩) (by simp only; omega)).trans q0c_w4
  clear q0c_w4
  replace HX0 := Lib.hid (GRw.kind.keep _ _ _ _ _ _ HX0.out (Kpi.of hb_w5))
  have la_w5 : w.heap.size + 1 < w5.heap.size := by omega
  have lt_q0c_w5 : q0 < w5.heap.size := by omega
  replace bB := bB.trans (hb_w5.mono bB.size)
  clear hb_w5 bW_w4 la_w4
  refine (toBox_any b _ _ (S_b.out.below bW_w5) (bxN_bound HN_b.out).1 HEB.out).mono ?_
  rintro e w6 ⟨x1, rfl, ho, hb_w6⟩
  obtain ⟨ya, yc, rfl, -, -⟩ := ho.g.form
  have HX1 := Lib.hid ho.g
  generalize b.length = nb at *
  clear ho g4b
  have z_w6 : w5.heap.size ≤ w6.heap.size := hb_w6.size
  have bW_w6 : Below W.heap.size W w6 := bW_w5.trans (hb_w6.mono bW_w5.size)
  have q0c_w6 := (hb_w6.cell (p := ⟨q0, 0, none⟩) (by simp only; omega)).trans q0c_w5
  clear q0c_w5
  replace HX0 := Lib.hid (GRw.kind.keep _ _ _ _ _ _ HX0.out (Kpi.of hb_w6))
  have X0c_w6 := (hb_w6.cell (p := ⟨w4.heap.size, 0, none⟩) (by simp only; omega)).trans X0c_w5
  clear X0c_w5
  have la_w6 : w.heap.size + 1 < w6.heap.size := by omega
  have lt_q0c_w6 : q0 < w6.heap.size := by omega
  clear lt_q0c_w5
  have lt_X0c_w6 : w4.heap.size < w6.heap.size := by omega
  replace bB := bB.trans (hb_w6.mono bB.size)
  clear hb_w6 bW_w5 la_w5
  go_wp2_with fail
  obtain ⟨w7, hqw7⟩ : ∃ x, w6.alloc (.cells #[.slice ya nb yc] 28) = x := ⟨_, rfl⟩
  have hb_w7 : Below w6.heap.size w6 w7 := by rw [← hqw7]; exact (Below.refl _ _).alloc (Nat.le_refl _) _
  have X1c_w7 : w7.cell? ⟨w6.heap.size, 0, none⟩ = some (.slice ya nb yc) := by rw [← hqw7]; simp
  have hs_w7 : w7.heap.size = w6.heap.size + 1 := by rw [← hqw7]; simp
  rw [hqw7]
  clear hqw7
  have z_w7 : w6.heap.size ≤ w7.heap.size := hb_w7.size
  have bW_w7 : Below W.heap.size W w7 := bW_w6.trans (hb_w7.mono bW_w6.size)
  have q0c_w7 := (hb_w7.cell (p := ⟨q0, 0, none⟩) (by simp only; omega)).trans q0c_w6
  clear q0c_w6
  replace HX0 := Lib.hid (GRw.kind.keep _ _ _ _ _ _ HX0.out (Kpi.of hb_w7))
  have X0c_w7 := (hb_w7.cell (p := ⟨w4.heap.size, 0, none⟩) (by simp only; omega)).trans X0c_w6
  clear X0c_w6
  replace HX1 := Lib.hid (GRw.kind.keep _ _ _ _ _ _ HX1.out (Kpi.of hb_w7))
  have la_w7 : w.heap.size + 1 < w7.heap.size := by omega
  have lt_q0c_w7 : q0 < w7.heap.size := by omega
  clear lt_q0c_w6
  have lt_X0c_w7 : w4.heap.size < w7.heap.size := by omega
  clear lt_X0c_w6
  replace bB := bB.trans (hb_w7.mono bB.size)
  clear hb_w7 bW_w6 la_w6
  refine (implMB_e HX0.out.rws HX1.out.rws (HT.out.below bW_w7) HR.out).mono ?_
  rintro e w8 ⟨gz, rfl, hg, hb_w8⟩
  obtain ⟨ga, gp, rfl, -, -⟩ := hg.form
  have HG := Lib.hid hg
  generalize (R.getD []).length = gn at *
  clear hg
  have z_w8 : w7.heap.size ≤ w8.heap.size := hb_w8.size
  have bW_w8 : Below W.heap.size W w8 := bW_w7.trans (hb_w8.mono bW_w7.size)
  have q0c_w8 := (hb_w8.cell (p := ⟨q0, 0, none⟩) (by simp only; omega)).trans q0c_w7
  clear q0c_w7
  replace HX0 := Lib.hid (GRw.kind.keep _ _ _ _ _ _ HX0.out (Kpi.of hb_w8))
  have X0c_w8 := (hb_w8.cell (p := ⟨w4.heap.size, 0, none⟩) (by simp only; omega)).trans X0c_w7
  clear X0c_w7
  replace HX1 := Lib.hid (GRw.kind.keep _ _ _ _ _ _ HX1.out (Kpi.of hb_w8))
  have X1c_w8 := (hb_w8.cell (p := ⟨w6.heap.size, 0, none⟩) (by simp only; omega)).trans X1c_w7
  clear X1c_w7
  have la_w8 : w.heap.size + 1 < w8.heap.size := by omega
  have lt_q0c_w8 : q0 < w8.heap.size := by omega
  clear lt_q0c_w7
  have lt_X0c_w8 : w4.heap.size < w8.heap.size := by omega
  clear lt_X0c_w7
  have lt_X1c_w8 : w6.heap.size < w8.heap.size := by omega
  replace bB := bB.trans (hb_w8.mono bB.size)
  clear hb_w8 bW_w7 la_w7
  go_wp2_with fail
  obtain ⟨w9, hqw9⟩ : ∃ x, w8.alloc (.cells #[.slice ga gn gp] 28) = x := ⟨_, rfl⟩
  have hb_w9 : Below w8.heap.size w8 w9 := by rw [← hqw9]; exact (Below.refl _ _).alloc (Nat.le_refl _) _
  have G0c_w9 : w9.cell? ⟨w8.heap.size, 0, none⟩ = some (.slice ga gn gp) := by rw [← hqw9]; simp
  have hs_w9 : w9.heap.size = w8.heap.size + 1 := by rw [← hqw9]; simp
  rw [hqw9]
  clear hqw9
  have z_w9 : w8.heap.size ≤ w9.heap.size := hb_w9.size
  have bW_w9 : Below W.heap.size W w9 := bW_w8.trans (hb_w9.mono bW_w8.size)
  have q0c_w9 := (hb_w9.cell (p := ⟨q0, 0, none⟩) (by simp only; omega)).trans q0c_w8
  clear q0c_w8
  replace HX0 := Lib.hid (GRw.kind.keep _ _ _ _ _ _ HX0.out (Kpi.of hb_w9))
  have X0c_w9 := (hb_w9.cell (p := ⟨w4.heap.size, 0, none⟩) (by simp only; omega)).trans X0c_w8
  clear X0c_w8
  replace HX1 := Lib.hid (GRw.kind.keep _ _ _ _ _ _ HX1.out (Kpi.of hb_w9))
  have X1c_w9 := (hb_w9.cell (p := ⟨w6.heap.size, 0, none⟩) (by simp only; omega)).trans X1c_w8
  clear X1c_w8
  replace HG := Lib.hid (GRw.kind.keep _ _ _ _ _ _ HG.out (Kpi.of hb_w9))
  have la_w9 : w.heap.size + 1 < w9.heap.size := by omega
  have lt_q0c_w9 : q0 < w9.heap.size := by omega
  clear lt_q0c_w8
  have lt_X0c_w9 : w4.heap.size < w9.heap.size := by omega
  clear lt_X0c_w8
  have lt_X1c_w9 : w6.heap.size < w9.heap.size := by omega
  clear lt_X1c_w8
  replace bB := bB.trans (hb_w9.mono bB.size)
  clear hb_w9 bW_w8 la_w8
  refine (eqBox_b HG.out.rws (HR3.out.below bB) (decide_eq_true rfl)).mono ?_
  rintro e w10 ⟨rfl, hb_w10⟩
  have z_w10 : w9.heap.size ≤ w10.heap.size := hb_w10.size
  have bW_w10 : Below W.heap.size W w10 := bW_w9.trans (hb_w10.mono bW_w9.size)
  have q0c_w10 := (hb_w10.cell (p := ⟨q0, 0, none⟩) (by simp only; omega)).trans q0c_w9
  clear q0c_w9
  replace HX0 := Lib.hid (GRw.kind.keep _ _ _ _ _ _ HX0.out (Kpi.of hb_w10))
  have X0c_w10 := (hb_w10.cell (p := ⟨w4.heap.size, 0, none⟩) (by simp only; omega)).trans X0c_w9
  clear X0c_w9
  replace HX1 := Lib.hid (GRw.kind.keep _ _ _ _ _ _ HX1.out (Kpi.of hb_w10))
  have X1c_w10 := (hb_w10.cell (p := ⟨w6.heap.size, 0, none⟩) (by simp only; omega)).trans X1c_w9
  clear X1c_w9
  replace HG := Lib.hid (GRw.kind.keep _ _ _ _ _ _ HG.out (Kpi.of hb_w10))
  have G0c_w10 := (hb_w10.cell (p := ⟨w8.heap.size, 0, none⟩) (by simp only; omega)).trans G0c_w9
  clear G0c_w9
  have la_w10 : w.heap.size + 1 < w10.heap.size := by omega
  have lt_q0c_w10 : q0 < w10.heap.size := by omega
  clear lt_q0c_w9
  have lt_X0c_w10 : w4.heap.size < w10.heap.size := by omega
  clear lt_X0c_w9
  have lt_X1c_w10 : w6.heap.size < w10.heap.size := by omega
  clear lt_X1c_w9
  have lt_G0c_w10 : w8.heap.size < w10.heap.size := by omega
  replace bB := bB.trans (hb_w10.mono bB.size)
  clear hb_w10 bW_w9 la_w9
  have g_a := HQ.out _ bW_w10
  have g_b := HP.out _ bW_w10
  go_wp2_with fail
  (refine wp_region_bel (W := w10) [BIs (.agg #[.slice xa na xc]), BIs (.agg #[.slice ua la uc]), (fun w v => ∃ z, v = .agg #[z] ∧ Rws 0 w z a), (BIs (.bool true)), BIs (.bool false)] (by kernel_rfl) (fun u => by simp only [frU, Act.put, List.setIfInBounds_toArray, List.set_cons_succ, List.set_cons_zero, Nat.zero_add, Nat.reduceAdd]; exact rfl) (by kernel_rfl) ⟨bst_is _, bst_is _, (fun _ _ _ hb ⟨z, h1, h2⟩ => ⟨z, h1, h2.below hb⟩), (bst_is _), bst_is _, trivial⟩ ?_ ?_; exact ⟨stB rfl (fun u w3 hC hd Q K hK => by (have z0 := (hC.cell (p := ⟨w4.heap.size, 0, none⟩) lt_X0c_w10).trans X0c_w10; go_step; exact hK _ _ rfl (Below.refl _ _) rfl)), stB rfl (fun u w3 hC hd Q K hK => by (have z0 := HQ.out _ (bW_w10.trans (hC.mono bW_w10.size)); go_step; exact hK _ _ rfl (Below.refl _ _) rfl)), stB rfl (fun u w3 hC hd Q K hK => by (have hu := bis (w := w3) (hd 1 rfl); rw [hu] at hK ⊢; clear hu; go_step; refine (toBox_any a _ _ (S_a.out.below (bW_w10.trans (hC.mono bW_w10.size))) (bxN_bound HN_a.out).1 HEA.out).mono ?_; rintro e w4 ⟨z4, rfl, ho4, hb4⟩; exact hK _ _ rfl hb4 ⟨z4, rfl, ho4.g.rws.mono (Nat.zero_le _)⟩)), stB rfl (fun u w3 hC hd Q K hK => by (have hu := bis (w := w3) (hd 0 rfl); rw [hu] at hK ⊢; clear hu; obtain ⟨z, hu, hz⟩ := hd 2 rfl; rw [hu] at hK ⊢; clear hu; go_step; refine (eqBox_b (HX0.out.rws.below hC) hz (decide_eq_true rfl)).mono ?_; rintro e w4 ⟨rfl, hb4⟩; exact hK _ _ rfl hb4 rfl)), stB rfl (fun u w3 hC hd Q K hK => by (have hu := bis (w := w3) (hd 3 rfl); rw [hu] at hK ⊢; clear hu; go_step; exact hK _ _ rfl (Below.refl _ _) rfl)), trivial⟩); intro u w11 hb_w11 hF; rw [bis (w := w11) (hF 0 (by decide))]; rw [bis (w := w11) (hF 1 (by decide))]; generalize u 2 = vx2 at *; generalize u 3 = vx3 at *; rw [bis (w := w11) (hF 4 (by decide))]; clear hF
  have z_w11 : w10.heap.size ≤ w11.heap.size := hb_w11.size
  have bW_w11 : Below W.heap.size W w11 := bW_w10.trans (hb_w11.mono bW_w10.size)
  have q0c_w11 := (hb_w11.cell (p := ⟨q0, 0, none⟩) (by simp only; omega)).trans q0c_w10
  clear q0c_w10
  replace HX0 := Lib.hid (GRw.kind.keep _ _ _ _ _ _ HX0.out (Kpi.of hb_w11))
  have X0c_w11 := (hb_w11.cell (p := ⟨w4.heap.size, 0, none⟩) (by simp only; omega)).trans X0c_w10
  clear X0c_w10
  replace HX1 := Lib.hid (GRw.kind.keep _ _ _ _ _ _ HX1.out (Kpi.of hb_w11))
  have X1c_w11 := (hb_w11.cell (p := ⟨w6.heap.size, 0, none⟩) (by simp only; omega)).trans X1c_w10
  clear X1c_w10
  replace HG := Lib.hid (GRw.kind.keep _ _ _ _ _ _ HG.out (Kpi.of hb_w11))
  have G0c_w11 := (hb_w11.cell (p := ⟨w8.heap.size, 0, none⟩) (by simp only; omega)).trans G0c_w10
  clear G0c_w10
  have la_w11 : w.heap.size + 1 < w11.heap.size := by omega
  have lt_q0c_w11 : q0 < w11.heap.size := by omega
  clear lt_q0c_w10
  have lt_X0c_w11 : w4.heap.size < w11.heap.size := by omega
  clear lt_X0c_w10
  have lt_X1c_w11 : w6.heap.size < w11.heap.size := by omega
  clear lt_X1c_w10
  have lt_G0c_w11 : w8.heap.size < w11.heap.size := by omega
  clear lt_G0c_w10
  replace bB := bB.trans (hb_w11.mono bB.size)
  clear hb_w11 bW_w10 la_w10
  clear g_a g_b
  have g_a := HQ.out _ bW_w11
  have g_b := HP.out _ bW_w11
  go_wp2_with fail
  (refine wp_region_bel (W := w11) [BIs (.agg #[.slice ya nb yc]), BIs (.agg #[.slice va lb vc]), (fun w v => ∃ z, v = .agg #[z] ∧ Rws 0 w z b), (BIs (.bool true)), BIs (.bool false)] (by kernel_rfl) (fun u => by simp only [frU, Act.put, List.setIfInBounds_toArray, List.set_cons_succ, List.set_cons_zero, Nat.zero_add, Nat.reduceAdd]; exact rfl) (by kernel_rfl) ⟨bst_is _, bst_is _, (fun _ _ _ hb ⟨z, h1, h2⟩ => ⟨z, h1, h2.below hb⟩), (bst_is _), bst_is _, trivial⟩ ?_ ?_; exact ⟨stB rfl (fun u w3 hC hd Q K hK => by (have z0 := (hC.cell (p := ⟨w6.heap.size, 0, none⟩) lt_X1c_w11).trans X1c_w11; go_step; exact hK _ _ rfl (Below.refl _ _) rfl)), stB rfl (fun u w3 hC hd Q K hK => by (have z0 := HP.out _ (bW_w11.trans (hC.mono bW_w11.size)); go_step; exact hK _ _ rfl (Below.refl _ _) rfl)), stB rfl (fun u w3 hC hd Q K hK => by (have hu := bis (w := w3) (hd 1 rfl); rw [hu] at hK ⊢; clear hu; go_step; refine (toBox_any b _ _ (S_b.out.below (bW_w11.trans (hC.mono bW_w11.size))) (bxN_bound HN_b.out).1 HEB.out).mono ?_; rintro e w4 ⟨z4, rfl, ho4, hb4⟩; exact hK _ _ rfl hb4 ⟨z4, rfl, ho4.g.rws.mono (Nat.zero_le _)⟩)), stB rfl (fun u w3 hC hd Q K hK => by (have hu := bis (w := w3) (hd 0 rfl); rw [hu] at hK ⊢; clear hu; obtain ⟨z, hu, hz⟩ := hd 2 rfl; rw [hu] at hK ⊢; clear hu; go_step; refine (eqBox_b (HX1.out.rws.below hC) hz (decide_eq_true rfl)).mono ?_; rintro e w4 ⟨rfl, hb4⟩; exact hK _ _ rfl hb4 rfl)), stB rfl (fun u w3 hC hd Q K hK => by (have hu := bis (w := w3) (hd 3 rfl); rw [hu] at hK ⊢; clear hu; go_step; exact hK _ _ rfl (Below.refl _ _) rfl)), trivial⟩); intro u w12 hb_w12 hF; rw [bis (w := w12) (hF 0 (by decide))]; rw [bis (w := w12) (hF 1 (by decide))]; generalize u 2 = vx2 at *; generalize u 3 = vx3 at *; rw [bis (w := w12) (hF 4 (by decide))]; clear hF
  have z_w12 : w11.heap.size ≤ w12.heap.size := hb_w12.size
  have bW_w12 : Below W.heap.size W w12 := bW_w11.trans (hb_w12.mono bW_w11.size)
  have q0c_w12 := (hb_w12.cell (p := ⟨q0, 0, none⟩) (by simp only; omega)).trans q0c_w11
  clear q0c_w11
  replace HX0 := Lib.hid (GRw.kind.keep _ _ _ _ _ _ HX0.out (Kpi.of hb_w12))
  have X0c_w12 := (hb_w12.cell (p := ⟨w4.heap.size, 0, none⟩) (by simp only; omega)).trans X0c_w11
  clear X0c_w11
  replace HX1 := Lib.hid (GRw.kind.keep _ _ _ _ _ _ HX1.out (Kpi.of hb_w12))
  have X1c_w12 := (hb_w12.cell (p := ⟨w6.heap.size, 0, none⟩) (by simp only; omega)).trans X1c_w11
  clear X1c_w11
  replace HG := Lib.hid (GRw.kind.keep _ _ _ _ _ _ HG.out (Kpi.of hb_w12))
  have G0c_w12 := (hb_w12.cell (p := ⟨w8.heap.size, 0, none⟩) (by simp only; omega)).trans G0c_w11
  clear G0c_w11
  have la_w12 : w.heap.size + 1 < w12.heap.size := by omega
  have lt_q0c_w12 : q0 < w12.heap.size := by omega
  clear lt_q0c_w11
  have lt_X0c_w12 : w4.heap.size < w12.heap.size := by omega
  clear lt_X0c_w11
  have lt_X1c_w12 : w6.heap.size < w12.heap.size := by omega
  clear lt_X1c_w11
  have lt_G0c_w12 : w8.heap.size < w12.heap.size := by omega
  clear lt_G0c_w11
  replace bB := bB.trans (hb_w12.mono bB.size)
  clear hb_w12 bW_w11 la_w11
  clear g_a g_b
  have g_a := HQ.out _ bW_w12
  have g_b := HP.out _ bW_w12
  go_wp2_with fail
  obtain ⟨c0, hc0⟩ : ∃ c, 1 + bxcnt a = c := ⟨_, rfl⟩
  have hcb0 : 1 + bxcnt a ≤ 8388608 ∧ c0 ≤ 2097153 := by have := bxcnt_le a; have := HN_a.out; omega
  refine (markBox_any _ _ a _ 1 w12 HX0.out (by omega) hcb0.1 HEA.out).mono ?_
  rw [hc0]
  rintro e w13 ⟨rfl, -, hk_w13⟩
  clear HX0
  have z_w13 : w12.heap.size ≤ w13.heap.size := hk_w13.below.size
  have bW_w13 : Below W.heap.size W w13 := bW_w12.trans (hk_w13.below.mono (by omega))
  have bX_w13 := hk_w13.below
  have q0c_w13 := (World.cell?_of_block (a := ⟨q0, 0, none⟩) (hk_w13.below.block (q0) (by omega))).trans q0c_w12
  clear q0c_w12
  have X0c_w13 := (World.cell?_of_block (a := ⟨w4.heap.size, 0, none⟩) (hk_w13.high (w4.heap.size) (by omega) (by omega))).trans X0c_w12
  clear X0c_w12
  replace HX1 := Lib.hid (GRw.kind.keep _ _ _ _ _ _ HX1.out (hk_w13.kpi (by omega)))
  have X1c_w13 := (World.cell?_of_block (a := ⟨w6.heap.size, 0, none⟩) (hk_w13.high (w6.heap.size) (by omega) (by omega))).trans X1c_w12
  clear X1c_w12
  replace HG := Lib.hid (GRw.kind.keep _ _ _ _ _ _ HG.out (hk_w13.kpi (by omega)))
  have G0c_w13 := (World.cell?_of_block (a := ⟨w8.heap.size, 0, none⟩) (hk_w13.high (w8.heap.size) (by omega) (by omega))).trans G0c_w12
  clear G0c_w12
  have la_w13 : w.heap.size + 1 < w13.heap.size := by omega
  have lt_q0c_w13 : q0 < w13.heap.size := by omega
  clear lt_q0c_w12
  have lt_X0c_w13 : w4.heap.size < w13.heap.size := by omega
  clear lt_X0c_w12
  have lt_X1c_w13 : w6.heap.size < w13.heap.size := by omega
  clear lt_X1c_w12
  have lt_G0c_w13 : w8.heap.size < w13.heap.size := by omega
  clear lt_G0c_w12
  replace bB := bB.trans (hk_w13.below.mono (by omega))
  clear hk_w13 bW_w12 la_w12 bX_w13
  have hcp0 : ¬ (c0 : Int) < 0 := by omega
  clear hc0
  go_wp2_with fail
  obtain ⟨c1, hc1⟩ : ∃ c, c0 + bxcnt b = c := ⟨_, rfl⟩
  have hcb1 : c0 + bxcnt b ≤ 8388608 ∧ c1 ≤ 4194305 := by have := bxcnt_le b; have := HN_b.out; omega
  refine (markBox_any _ _ b _ c0 w13 HX1.out (by omega) hcb1.1 HEB.out).mono ?_
  rw [hc1]
  rintro e w14 ⟨rfl, -, hk_w14⟩
  clear HX1
  have z_w14 : w13.heap.size ≤ w14.heap.size := hk_w14.below.size
  have bW_w14 : Below W.heap.size W w14 := bW_w13.trans (hk_w14.below.mono (by omega))
  have bX_w14 := hk_w14.below
  have q0c_w14 := (World.cell?_of_block (a := ⟨q0, 0, none⟩) (hk_w14.below.block (q0) (by omega))).trans q0c_w13
  clear q0c_w13
  have X0c_w14 := (World.cell?_of_block (a := ⟨w4.heap.size, 0, none⟩) (hk_w14.below.block (w4.heap.size) (by omega))).trans X0c_w13
  clear X0c_w13
  have X1c_w14 := (World.cell?_of_block (a := ⟨w6.heap.size, 0, none⟩) (hk_w14.high (w6.heap.size) (by omega) (by omega))).trans X1c_w13
  clear X1c_w13
  replace HG := Lib.hid (GRw.kind.keep _ _ _ _ _ _ HG.out (hk_w14.kpi (by omega)))
  have G0c_w14 := (World.cell?_of_block (a := ⟨w8.heap.size, 0, none⟩) (hk_w14.high (w8.heap.size) (by omega) (by omega))).trans G0c_w13
  clear G0c_w13
  have la_w14 : w.heap.size + 1 < w14.heap.size := by omega
  have lt_q0c_w14 : q0 < w14.heap.size := by omega
  clear lt_q0c_w13
  have lt_X0c_w14 : w4.heap.size < w14.heap.size := by omega
  clear lt_X0c_w13
  have lt_X1c_w14 : w6.heap.size < w14.heap.size := by omega
  clear lt_X1c_w13
  have lt_G0c_w14 : w8.heap.size < w14.heap.size := by omega
  clear lt_G0c_w13
  replace bB := bB.trans (hk_w14.below.mono (by omega))
  clear hk_w14 bW_w13 la_w13 bX_w14
  have hcp1 : ¬ (c1 : Int) < 0 := by omega
  clear hc1
  go_wp2_with fail
  refine (eqBox_b HG.out.rws (HR3.out.below bB) (decide_eq_true rfl)).mono ?_
  rintro e w15 ⟨rfl, hb_w15⟩
  have z_w15 : w14.heap.size ≤ w15.heap.size := hb_w15.size
  have bW_w15 : Below W.heap.size W w15 := bW_w14.trans (hb_w15.mono bW_w14.size)
  have q0c_w15 := (hb_w15.cell (p := ⟨q0, 0, none⟩) (by simp only; omega)).trans q0c_w14
  clear q0c_w14
  have X0c_w15 := (hb_w15.cell (p := ⟨w4.heap.size, 0, none⟩) (by simp only; omega)).trans X0c_w14
  clear X0c_w14
  have X1c_w15 := (hb_w15.cell (p := ⟨w6.heap.size, 0, none⟩) (by simp only; omega)).trans X1c_w14
  clear X1c_w14
  replace HG := Lib.hid (GRw.kind.keep _ _ _ _ _ _ HG.out (Kpi.of hb_w15))
  have G0c_w15 := (hb_w15.cell (p := ⟨w8.heap.size, 0, none⟩) (by simp only; omega)).trans G0c_w14
  clear G0c_w14
  have la_w15 : w.heap.size + 1 < w15.heap.size := by omega
  have lt_q0c_w15 : q0 < w15.heap.size := by omega
  clear lt_q0c_w14
  have lt_X0c_w15 : w4.heap.size < w15.heap.size := by omega
  clear lt_X0c_w14
  have lt_X1c_w15 : w6.heap.size < w15.heap.size := by omega
  clear lt_X1c_w14
  have lt_G0c_w15 : w8.heap.size < w15.heap.size := by omega
  clear lt_G0c_w14
  replace bB := bB.trans (hb_w15.mono bB.size)
  clear hb_w15 bW_w14 la_w14
  have HGE := Lib.hid (show ∀ (k : Nat) xs, (R.getD [])[k]? = some xs → xs.length ≤ 1048576 by
    cases hc : R with
    | none => intro k xs h; simp at h
    | some c => intro k xs h; have := bvalid_lens (HV.out c hc) k xs h; omega)
  have HGC := Lib.hid (show 1 + bxcnt (R.getD []) ≤ 8388608 by
    cases hc : R with
    | none => decide
    | some c =>
      have h1 : bxcnt c ≤ c.length * 80 := gcnt_bound c (fun j xs hx => by have := bvalid_lens (HV.out c hc) j xs hx; omega)
      rw [(bvalid_four (HV.out c hc)).1] at h1
      rw [Option.getD_some]; omega)
  obtain ⟨d, hd⟩ : ∃ d, 1 + bxcnt (R.getD []) = d := ⟨_, rfl⟩
  have HD := Lib.hid hd
  have hdp : ¬ (d : Int) < 0 := by omega
  clear hd
  go_wp2_with fail
  refine (markBox_any _ _ (R.getD []) _ 1 w15 HG.out (by omega) HGC.out HGE.out).mono ?_
  rw [HD.out]
  rintro e w16 ⟨rfl, ho, hk_w16⟩
  have OM := Lib.hid ho.rws
  clear HG ho
  have z_w16 : w15.heap.size ≤ w16.heap.size := hk_w16.below.size
  have bW_w16 : Below W.heap.size W w16 := bW_w15.trans (hk_w16.below.mono (by omega))
  have bX_w16 := hk_w16.below
  have q0c_w16 := (World.cell?_of_block (a := ⟨q0, 0, none⟩) (hk_w16.below.block (q0) (by omega))).trans q0c_w15
  clear q0c_w15
  have G0c_w16 := (World.cell?_of_block (a := ⟨w8.heap.size, 0, none⟩) (hk_w16.high (w8.heap.size) (by omega) (by omega))).trans G0c_w15
  clear G0c_w15
  have la_w16 : w.heap.size + 1 < w16.heap.size := by omega
  have lt_q0c_w16 : q0 < w16.heap.size := by omega
  clear lt_q0c_w15
  have lt_G0c_w16 : w8.heap.size < w16.heap.size := by omega
  clear lt_G0c_w15
  replace bB := bB.trans (hk_w16.below.mono (by omega))
  clear hk_w16 bW_w15 la_w15 bX_w16
  have bM : Below w16.heap.size w16 w16 := Below.refl _ _
  go_wp2_with fail
  refine (heldBox_any (R.getD []) _ 1 w16 (OM.out.below bM) HGC.out HGE.out).mono ?_
  rw [HD.out]
  rintro e w17 ⟨rfl, hb_w17⟩
  have z_w17 : w16.heap.size ≤ w17.heap.size := hb_w17.size
  have bW_w17 : Below W.heap.size W w17 := bW_w16.trans (hb_w17.mono bW_w16.size)
  have q0c_w17 := (hb_w17.cell (p := ⟨q0, 0, none⟩) (by simp only; omega)).trans q0c_w16
  clear q0c_w16
  have G0c_w17 := (hb_w17.cell (p := ⟨w8.heap.size, 0, none⟩) (by simp only; omega)).trans G0c_w16
  clear G0c_w16
  have la_w17 : w.heap.size + 1 < w17.heap.size := by omega
  have lt_q0c_w17 : q0 < w17.heap.size := by omega
  clear lt_q0c_w16
  have lt_G0c_w17 : w8.heap.size < w17.heap.size := by omega
  clear lt_G0c_w16
  replace bB := bB.trans (hb_w17.mono bB.size)
  replace bM := bM.trans (hb_w17.mono bM.size)
  clear hb_w17 bW_w16 la_w16
  clear g_a g_b
  have g_a := HQ.out _ bW_w17
  have g_b := HP.out _ bW_w17
  go_wp2_with fail
  refine wp_region_turn2 (W := w17) 9 [BIs (.agg #[.slice ua la uc]), (fun w v => ∃ z, v = .agg #[z] ∧ Rws 0 w z a), BIs (.agg #[.slice va lb vc]), (fun w v => ∃ z, v = .agg #[z] ∧ Rws 0 w z b), (fun w v => ∃ z lo hi, v = .tuple #[.agg #[z], .bool R.isSome] ∧ w17.heap.size ≤ lo ∧ GRw w lo hi z (R.getD []) ∧ hi ≤ w.heap.size), (fun w v => ∃ z lo hi, v = .tuple #[.agg #[z], .bool R.isSome] ∧ w17.heap.size ≤ lo ∧ GRw w lo hi z (R.getD []) ∧ hi ≤ w.heap.size), (fun w v => ∃ z lo hi, v = .agg #[z] ∧ w17.heap.size ≤ lo ∧ GRw w lo hi z (R.getD []) ∧ hi ≤ w.heap.size), BIs (.bool R.isSome), (BP w17)] (bof [BIs (.agg #[.slice ua la uc]), (fun _ _ => True), BIs (.agg #[.slice va lb vc]), (fun _ _ => True), (fun _ v => ∃ (z : Value) (lo hi : Nat), v = .tuple #[z, .bool R.isSome] ∧ True), (fun _ v => ∃ (z : Value) (lo hi : Nat), v = .tuple #[z, .bool R.isSome] ∧ True), (fun _ _ => True), BIs (.bool R.isSome), (BG (R.getD []) w17), (fun _ _ => True), BIs (.bool R.isSome)]) (by kernel_rfl) (by decide) (fun u => by simp only [frU, Act.put, List.setIfInBounds_toArray, List.set_cons_succ, List.set_cons_zero, Nat.zero_add, Nat.reduceAdd]; exact rfl) (by kernel_rfl) ⟨bst_is _, (fun _ _ _ hb ⟨z, h1, h2⟩ => ⟨z, h1, h2.below hb⟩), bst_is _, (fun _ _ _ hb ⟨z, h1, h2⟩ => ⟨z, h1, h2.below hb⟩), (fun _ _ _ hb ⟨z, lo, hi, h1, h2, h3, h4⟩ => ⟨z, lo, hi, h1, h2, GRw.kind.keep _ _ _ _ _ _ h3 (Kpi.of hb), Nat.le_trans h4 hb.size⟩), (fun _ _ _ hb ⟨z, lo, hi, h1, h2, h3, h4⟩ => ⟨z, lo, hi, h1, h2, GRw.kind.keep _ _ _ _ _ _ h3 (Kpi.of hb), Nat.le_trans h4 hb.size⟩), (fun _ _ _ hb ⟨z, lo, hi, h1, h2, h3, h4⟩ => ⟨z, lo, hi, h1, h2, GRw.kind.keep _ _ _ _ _ _ h3 (Kpi.of hb), Nat.le_trans h4 hb.size⟩), bst_is _, (bst_bp _), trivial⟩ ?_ ?_; (exact ⟨stT rfl (by decide) (by kernel_rfl) (fun u w3 hC hd hI Q K hK => by (have z0 := HQ.out _ (bW_w17.trans (hC.mono bW_w17.size)); go_step; exact hK _ _ rfl (Below.refl _ _) rfl)), stT rfl (by decide) (by kernel_rfl) (fun u w3 hC hd hI Q K hK => by (have hu := bis (w := w3) (hd 0 rfl); rw [hu] at hK ⊢; clear hu; go_step; refine (toBox_any a _ _ (S_a.out.below (bW_w17.trans (hC.mono bW_w17.size))) (bxN_bound HN_a.out).1 HEA.out).mono ?_; rintro e w4 ⟨z4, rfl, ho4, hb4⟩; exact hK _ _ rfl hb4 ⟨z4, rfl, ho4.g.rws.mono (Nat.zero_le _)⟩)), stT rfl (by decide) (by kernel_rfl) (fun u w3 hC hd hI Q K hK => by (have z0 := HP.out _ (bW_w17.trans (hC.mono bW_w17.size)); go_step; exact hK _ _ rfl (Below.refl _ _) rfl)), stT rfl (by decide) (by kernel_rfl) (fun u w3 hC hd hI Q K hK => by (have hu := bis (w := w3) (hd 2 rfl); rw [hu] at hK ⊢; clear hu; go_step; refine (toBox_any b _ _ (S_b.out.below (bW_w17.trans (hC.mono bW_w17.size))) (bxN_bound HN_b.out).1 HEB.out).mono ?_; rintro e w4 ⟨z4, rfl, ho4, hb4⟩; exact hK _ _ rfl hb4 ⟨z4, rfl, ho4.g.rws.mono (Nat.zero_le _)⟩)), stT rfl (by decide) (by kernel_rfl) (fun u w3 hC hd hI Q K hK => by (obtain ⟨x0, hu, hx⟩ := hd 1 rfl; rw [hu] at hK ⊢; clear hu; obtain ⟨y0, hu, hy⟩ := hd 3 rfl; rw [hu] at hK ⊢; clear hu; go_step; refine (implMB_e hx hy (HT.out.below (bW_w17.trans (hC.mono bW_w17.size))) HR.out).mono ?_; rintro e w4 ⟨z4, rfl, ho4, hb4⟩; exact hK _ _ rfl hb4 ⟨z4, _, _, rfl, hC.size, ho4, Nat.le_refl _⟩)), stT rfl (by decide) (by kernel_rfl) (fun u w3 hC hd hI Q K hK => by (obtain ⟨z, lo, hi, hu, hz1, hz, hz2⟩ := hd 4 rfl; rw [hu] at hK ⊢; clear hu; go_step; exact hK _ _ rfl (Below.refl _ _) ⟨z, lo, hi, rfl, hz1, hz, hz2⟩)), stT rfl (by decide) (by kernel_rfl) (fun u w3 hC hd hI Q K hK => by (obtain ⟨z, lo, hi, hu, hz1, hz, hz2⟩ := hd 5 rfl; rw [hu] at hK ⊢; clear hu; go_step; exact hK _ _ rfl (Below.refl _ _) ⟨z, lo, hi, rfl, hz1, hz, hz2⟩)), stTf rfl (by decide) (fun u w3 hC hd Q K hK => by (obtain ⟨z, lo, hi, hu, hz⟩ := hd 5 rfl; rw [hu] at hK ⊢; clear hu; go_step; exact hK _ _ rfl (Below.refl _ _) rfl)) (fun u w3 hd Q K hK => by (dsimp only at hK ⊢; obtain ⟨z, lo, hi, hu, hz⟩ := hd 5 rfl; rw [hu] at hK ⊢; clear hu; go_step; exact hK _ rfl rfl)), stT rfl (by decide) (by kernel_rfl) (fun u w3 hC hd hI Q K hK => by (go_step; exact hK _ _ rfl ((Below.refl _ _).alloc (Nat.le_refl _) _) (BP.new _ hC.size))), stTt rfl (by decide) (fun u w3 hC hd Q K hK => by (dsimp only at hK ⊢; obtain ⟨qq, hu, hq1, hq2, hqf, hqo⟩ := hd 8 rfl; rw [hu] at hK ⊢; have hkeep := hu; clear hu; obtain ⟨z, lo, hi, hu, hz1, hz, hz2⟩ := hd 6 rfl; rw [hu] at hK ⊢; clear hu; have e0 := hqf 0; have e1 := hqo.1; obtain ⟨a0, c0, rfl, -, -⟩ := hz.form; go_step; have hQ := BG.mk1 hC hq1 hq2 hqf hqo (HLN.out _ rfl) (OwnG.low hz hz1) hz2; refine hK _ _ rfl (fun j hj h => ?_) ?_; (match j, hj, h with | 0, _, h => exact h | 1, _, _ => exact trivial | 2, _, h => exact h | 3, _, _ => exact trivial | 4, _, h => exact (let ⟨z, _, _, g1, _⟩ := h; ⟨_, 0, 0, g1, trivial⟩) | 5, _, h => exact (let ⟨z, _, _, g1, _⟩ := h; ⟨_, 0, 0, g1, trivial⟩) | 6, _, _ => exact trivial | 7, _, h => exact h | 8, _, h => exact (show BG (R.getD []) w17 _ _ by rw [hkeep]; exact hQ) | j + 9, hj, _ => exact absurd hj (by omega)); exact trivial)), stTb rfl (by decide) (by kernel_rfl) (fun u w3 hd Q K hK => by (dsimp only at hK ⊢; have hu := bis (w := w3) (hd 7 rfl); rw [hu] at hK ⊢; clear hu; go_step; exact hK _ rfl rfl)), trivial⟩); intro u w18 hF; rw [bis (w := w18) (hF 0 (by decide))]; rw [bis (w := w18) (hF 2 (by decide))]; rw [bis (w := w18) (hF 7 (by decide))]; have h8 := hF 8 (by decide); generalize u 8 = v8 at *; rw [bis (w := w18) (hF 10 (by decide))]; generalize u 1 = vx1 at *; generalize u 3 = vx3 at *; generalize u 4 = vx4 at *; generalize u 5 = vx5 at *; generalize u 6 = vx6 at *; generalize u 9 = vx9 at *; clear hF
  obtain ⟨q1, ha, hn, hp, hhi, rfl, hq3, hq4, hc_w18, hf, hg, hgh, hb_w18⟩ := h8
  have HH := Lib.hid hg
  clear hf hg
  have z_w18 : w17.heap.size ≤ w18.heap.size := hb_w18.size
  have bW_w18 : Below W.heap.size W w18 := bW_w17.trans (hb_w18.mono bW_w17.size)
  have q0c_w18 := (hb_w18.cell (p := ⟨q0, 0, none⟩) (by simp only; omega)).trans q0c_w17
  clear q0c_w17
  have G0c_w18 := (hb_w18.cell (p := ⟨w8.heap.size, 0, none⟩) (by simp only; omega)).trans G0c_w17
  clear G0c_w17
  have la_w18 : w.heap.size + 1 < w18.heap.size := by omega
  have lt_q0c_w18 : q0 < w18.heap.size := by omega
  clear lt_q0c_w17
  have lt_G0c_w18 : w8.heap.size < w18.heap.size := by omega
  clear lt_G0c_w17
  replace bB := bB.trans (hb_w18.mono bB.size)
  replace bM := bM.trans (hb_w18.mono bM.size)
  clear hb_w18 bW_w17 la_w17
  have lt_hc_w18 : q1 < w18.heap.size := hq4
  clear g_a g_b
  go_wp2_with fail
  refine (eqBox_b HH.out.rws (HR3.out.below bB) (decide_eq_true rfl)).mono ?_
  rintro e w19 ⟨rfl, hb_w19⟩
  have z_w19 : w18.heap.size ≤ w19.heap.size := hb_w19.size
  have bW_w19 : Below W.heap.size W w19 := bW_w18.trans (hb_w19.mono bW_w18.size)
  have q0c_w19 := (hb_w19.cell (p := ⟨q0, 0, none⟩) (by simp only; omega)).trans q0c_w18
  clear q0c_w18
  have G0c_w19 := (hb_w19.cell (p := ⟨w8.heap.size, 0, none⟩) (by simp only; omega)).trans G0c_w18
  clear G0c_w18
  have hc_w19 := (hb_w19.cell (p := ⟨q1, 0, none⟩) (by simp only; omega)).trans hc_w18
  clear hc_w18
  replace HH := Lib.hid (GRw.kind.keep _ _ _ _ _ _ HH.out (Kpi.of hb_w19))
  have la_w19 : w.heap.size + 1 < w19.heap.size := by omega
  have lt_q0c_w19 : q0 < w19.heap.size := by omega
  clear lt_q0c_w18
  have lt_G0c_w19 : w8.heap.size < w19.heap.size := by omega
  clear lt_G0c_w18
  have lt_hc_w19 : q1 < w19.heap.size := by omega
  clear lt_hc_w18
  replace bB := bB.trans (hb_w19.mono bB.size)
  replace bM := bM.trans (hb_w19.mono bM.size)
  clear hb_w19 bW_w18 la_w18
  go_wp2_with fail
  refine (heldBox_any (R.getD []) _ 1 w19 (OM.out.below bM) HGC.out HGE.out).mono ?_
  rw [HD.out]
  rintro e w20 ⟨rfl, hb_w20⟩
  have z_w20 : w19.heap.size ≤ w20.heap.size := hb_w20.size
  have bW_w20 : Below W.heap.size W w20 := bW_w19.trans (hb_w20.mono bW_w19.size)
  have q0c_w20 := (hb_w20.cell (p := ⟨q0, 0, none⟩) (by simp only; omega)).trans q0c_w19
  clear q0c_w19
  have G0c_w20 := (hb_w20.cell (p := ⟨w8.heap.size, 0, none⟩) (by simp only; omega)).trans G0c_w19
  clear G0c_w19
  have hc_w20 := (hb_w20.cell (p := ⟨q1, 0, none⟩) (by simp only; omega)).trans hc_w19
  clear hc_w19
  replace HH := Lib.hid (GRw.kind.keep _ _ _ _ _ _ HH.out (Kpi.of hb_w20))
  have la_w20 : w.heap.size + 1 < w20.heap.size := by omega
  have lt_q0c_w20 : q0 < w20.heap.size := by omega
  clear lt_q0c_w19
  have lt_G0c_w20 : w8.heap.size < w20.heap.size := by omega
  clear lt_G0c_w19
  have lt_hc_w20 : q1 < w20.heap.size := by omega
  clear lt_hc_w19
  replace bB := bB.trans (hb_w20.mono bB.size)
  replace bM := bM.trans (hb_w20.mono bM.size)
  clear hb_w20 bW_w19 la_w19
  have hwF := hal.trans (bW_w20.mono hal.size)
  go_wp2
  go_ret
  exact ⟨rfl, hwF⟩
end Go.Proofs.YtnnmkdaioajkkaaDoor
