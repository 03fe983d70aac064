/- Unfolding: the program's walk through a chain. -/
import Derived.Test.YtfcbbahlhjdefaaDoorNwX
import Derived.Test.YtfcbbahlhjdefaaDoorRsZ
namespace Go.Proofs.YtfcbbahlhjdefaaDoor
open Go.RowKit
/-- What a chain gives. -/
def ChainR (S : Nat) (R : UfR) (U : Nat) (Y : Nat → Prop) (cv ov : Value) (w : World) (e : Ending) (w' : World) : Prop :=
  ∃ z L o ov' q, e = .returned z ∧ Below S w w' ∧ Ui S U Y cv q w' ov' o ∧ SxV (ZS U ov' Y) w' z L ∧ L.length ≤ 4000 ∧ Tw U ov ov' w w' ∧ ((q = false ∧ R = some (L, o)) ∨ (q = true ∧ R = none))
/-- What a call gives. -/
def CallR (S : Nat) (R : UfR) (U : Nat) (Y : Nat → Prop) (cv ov : Value) (M : List Bx) (w : World) (e : Ending) (w' : World) : Prop :=
  ∃ z L o ov' q, e = .returned z ∧ Below S w w' ∧ Ui S U Y cv q w' ov' o ∧ SxV (ZS U ov' Y) w' z (M ++ L) ∧ L.length ≤ 4000 ∧ Tw U ov ov' w w' ∧ ((q = false ∧ R = some (L, o)) ∨ (q = true ∧ R = none))
set_option maxHeartbeats 2000000 in
theorem calling_w {S : Nat} {R : UfR} {U : Nat} {Y : Nat → Prop} {cv ov lv fv mv : Value} {M : List Bx} (c : Int) (w : World) (hS : S ≤ w.heap.size) (hch : ∀ w1, Below w.heap.size w w1 → Calls Tryd.prog 34 #[.pointer (some ⟨U, 0, none⟩), .int .i64 c, fv] w1 (ChainR S R U Y cv ov w1)) (hM : SxV (ZS U ov Y) w mv M) (hMl : M.length ≤ 1600) (hY : ∀ k, Y k → k < w.heap.size) :
    Calls Tryd.prog 100 #[.agg #[.int .i64 c], .pointer (some ⟨U, 0, none⟩), lv, fv, mv] w (CallR S R U Y cv ov M w) := by
  obtain ⟨ma, mc, hmv, hml, hmm⟩ := hM.form
  obtain ⟨nm, hnm⟩ : ∃ n, M.length = n := ⟨_, rfl⟩
  rw [hnm] at hmv
  subst hmv
  obtain ⟨W, hW⟩ : ∃ W, w.alloc (.cells #[.int .i64 c] 128) = W := ⟨_, rfl⟩
  have hal : Below w.heap.size w W := by rw [← hW]; exact (Below.refl _ _).alloc (Nat.le_refl _) _
  have e0 : W.cell? ⟨w.heap.size, 0, none⟩ = some (.int .i64 c) := by rw [← hW]; simp
  have HC := Lib.hid (hch W hal)
  have HM := Lib.hid (hM.below hal)
  have HY := Lib.hid hY
  have HAL := Lib.hid hal
  have HML := Lib.hid (And.intro hMl hnm)
  have hzW := hal.size
  clear hch hM hY hal hnm hml hmm hMl
  go_enter Tryd.func100, Tryd.ntmps100
  go_wp2_with fail
  refine HC.out.mono ?_
  rintro e w1 ⟨z, L, o, ov', q, rfl, hb1, hU1, hZ1, hL1, hT1, hq1⟩
  obtain ⟨za, zc, hzv, hzl, hzm⟩ := hZ1.form
  obtain ⟨nl, hnl⟩ : ∃ n, L.length = n := ⟨_, rfl⟩
  rw [hnl] at hzv
  subst hzv
  have HU1 := Lib.hid hU1
  have HM1 := Lib.hid (HM.out.tw hT1)
  have HZ1 := Lib.hid hZ1
  have HR := Lib.hid (And.intro hb1 (And.intro hT1 (And.intro hL1 hq1)))
  obtain ⟨W2, hW2⟩ : ∃ W2, w1.alloc (.cells #[.slice ma nm mc, .slice za nl zc] 81) = W2 := ⟨_, rfl⟩
  have hal2 : Below w1.heap.size w1 W2 := by rw [← hW2]; exact (Below.refl _ _).alloc (Nat.le_refl _) _
  have hg : w1.heap.size < W2.heap.size := by rw [← hW2]; simp
  have c0 : W2.cell? ⟨w1.heap.size, 0, none⟩ = some (.slice ma nm mc) := by rw [← hW2]; simp
  have c1 : W2.cell? ⟨w1.heap.size, 1, none⟩ = some (.slice za nl zc) := by rw [← hW2]; simp
  have HCC := Lib.hid (concat_any W2 hg c0 c1 (HM1.out.below hal2) (HZ1.out.below hal2) (by have := HML.out.1; omega) (by omega) (fun k hk => by
    have := ZS.ltU HU1.out (fun k hk => (by have := HY.out k hk; have := hT1.1; omega : k < w1.heap.size)) k hk
    omega))
  have HAL2 := Lib.hid hal2
  clear hU1 hZ1 hb1 hT1 hL1 hq1 hal2 c0 c1 hnl hzl hzm
  go_wp2_with fail
  refine HCC.out.mono ?_
  rintro e w3 ⟨z3, rfl, hz3, hb3⟩
  have hb13 := HAL2.out.trans (hb3.mono HAL2.out.size)
  go_wp2
  go_ret
  have hSW : S ≤ W.heap.size := by omega
  have hS1 : S ≤ w1.heap.size := Nat.le_trans hSW HR.out.1.size
  exact ⟨_, L, o, ov', q, rfl, ((HAL.out.mono hS).trans HR.out.1).trans (hb13.mono hS1), HU1.out.below hb13, hz3.v, HR.out.2.2.1, ((Tw.of HAL.out).trans HR.out.2.1).trans (Tw.of hb13), HR.out.2.2.2⟩
theorem ufGo_rv {rec : Nat → List Bx → List Ft → UfR} : ∀ (rs : List Ru) (inn left : List Bx) (out : List Ft) (i : List Bx) (o : List Ft), ufGo rec rs inn left out = some (i, o) → rvalid i = true
  | [], inn, left, out, i, o, h => by
    unfold ufGo at h
    split at h
    · rename_i h2
      cases h; exact h2
    · cases h
  | r :: rs, inn, left, out, i, o, h => by
    unfold ufGo at h
    split at h
    · split at h
      · cases h
      · split at h
        · exact ufGo_rv rs _ _ _ _ _ h
        · cases h
    · cases h
theorem ufWalk_rv {cs : List (List Ru)} {f c : Nat} {inn : List Bx} {out : List Ft} {i : List Bx} {o : List Ft} (h : ufWalk cs f c inn out = some (i, o)) : rvalid i = true := by
  cases f with
  | zero => cases h
  | succ f =>
    unfold ufWalk at h
    exact ufGo_rv _ _ _ _ _ _ h
/-- What stands at the head of a round. -/
structure CSt (S U Lb : Nat) (Y : Nat → Prop) (cv ov0 : Value) (q : Bool) (w wr : World) (iv lv ov : Value) (inn left : List Bx) (out : List Ft) : Prop where
  ui : Ui S U (YL lv (fun k => k = Lb ∨ Y k)) cv q wr ov out
  l : LN (ZS U ov (fun k => k = Lb ∨ Y k)) w.heap.size wr lv left
  i : SxV (ZS U ov (YL lv (fun k => k = Lb ∨ Y k))) wr iv inn
  tw : Tw U ov0 ov w wr
  bl : Below S w wr
  c : wr.cell? ⟨Lb, 0, none⟩ = some lv
  f : wr.frozen? ⟨Lb, 0, none⟩ = false
  lt : Lb < wr.heap.size
  ne : U < Lb
  sw : S ≤ w.heap.size
  y : ∀ k, Y k → k < w.heap.size
section
variable {S U Lb : Nat} {Y : Nat → Prop} {cv ov0 : Value} {q : Bool} {w wr w' : World} {iv lv ov : Value} {inn left : List Bx} {out : List Ft}
theorem CSt.yl (h : CSt S U Lb Y cv ov0 q w wr iv lv ov inn left out) : ∀ k, YL lv (fun k => k = Lb ∨ Y k) k → k < wr.heap.size := fun k hk => by
  rcases hk with e | e | e
  · exact (h.l.lt k e.symm).2
  · rw [e]; exact h.lt
  · have := h.y k e; have := h.tw.1; omega
theorem CSt.s (h : CSt S U Lb Y cv ov0 q w wr iv lv ov inn left out) : S ≤ wr.heap.size := by have := h.ui.s; have := h.ui.lt; omega
theorem CSt.below (h : CSt S U Lb Y cv ov0 q w wr iv lv ov inn left out) (hb : Below wr.heap.size wr w') : CSt S U Lb Y cv ov0 q w w' iv lv ov inn left out :=
  ⟨h.ui.below hb, h.l.below hb, h.i.below hb, h.tw.trans (Tw.of hb), h.bl.trans (hb.mono h.s), (hb.cell (p := ⟨Lb, 0, none⟩) h.lt).trans h.c, (hb.frozen (p := ⟨Lb, 0, none⟩) h.lt).trans h.f, Nat.lt_of_lt_of_le h.lt hb.size, h.ne, h.sw, h.y⟩
theorem CSt.on (h : CSt S U Lb Y cv ov0 q w wr iv lv ov inn left out) {v : Value} {bs : List Bx} (hi : SxV (ZS U ov (YL lv (fun k => k = Lb ∨ Y k))) wr v bs) : CSt S U Lb Y cv ov0 q w wr v lv ov bs left out := { h with i := hi }
theorem CSt.own (h : CSt S U Lb Y cv ov0 q w wr iv lv ov inn left out) : some Lb ≠ ov.ownBlock := fun e => (h.ui.op Lb e.symm).2 (.inr (.inl rfl))
theorem CSt.to (h : CSt S U Lb Y cv ov0 q w wr iv lv ov inn left out) {q' : Bool} {ov' : Value} {out' : List Ft} (hO : Ui S U (YL lv (fun k => k = Lb ∨ Y k)) cv q' w' ov' out') (ht : Tw U ov ov' wr w') (hb : Below S wr w') : CSt S U Lb Y cv ov0 q' w w' iv lv ov' inn left out' := by
  have hbl := (ht.2 Lb h.lt (by have := h.ne; omega) h.own).1
  exact ⟨hO, h.l.tw ht, h.i.tw ht, h.tw.trans ht, h.bl.trans hb, (World.cell?_of_block (a := ⟨Lb, 0, none⟩) hbl).trans h.c, (World.frozen?_of_block (a := ⟨Lb, 0, none⟩) hbl).trans h.f, Nat.lt_of_lt_of_le h.lt ht.1, h.ne, h.sw, h.y⟩
theorem CSt.over (h : CSt S U Lb Y cv ov0 q w wr iv lv ov inn left out) : CSt S U Lb Y cv ov0 true w (wr.setCell ⟨U, 2, none⟩ (.bool true)) iv lv ov inn left out := by
  obtain ⟨g1, g2, g3⟩ := h.ui.over
  exact h.to g1 g2 g3
theorem CSt.bad (h : CSt S U Lb Y cv ov0 true w wr iv lv ov inn left out) {R : UfR} (hR : R = none) : ChainR S R U Y cv ov0 w (.returned (.slice none 0 0)) wr :=
  ⟨_, [], out, ov, true, rfl, h.bl, h.ui.sub (fun k hk => .inr (.inr hk)), SxV.nil _ _, by simp, h.tw, .inr ⟨rfl, hR⟩⟩
/-- Boxes that leave are put to those that left. -/
theorem CSt.leave (h : CSt S U Lb Y cv ov0 q w wr iv lv ov inn left out) {w1 : World} {lv' mv : Value} {F M : List Bx} (hM : SxV (ZS U ov (YL lv (fun k => k = Lb ∨ Y k))) wr mv M) (c1 : w1.cell? ⟨Lb, 0, none⟩ = some lv) (f1 : w1.frozen? ⟨Lb, 0, none⟩ = false) (hL : LN (ZS U ov (fun k => k = Lb ∨ Y k)) w.heap.size w1 lv' (left ++ F)) (hb : Below w.heap.size wr w1) (hz : wr.heap.size ≤ w1.heap.size) (hk : ∀ k, k < wr.heap.size → some k ≠ lv.ownBlock → w1.heap[k]? = wr.heap[k]?) (hat : ∀ z, lv'.ownBlock = some z → lv.ownBlock = some z ∨ wr.heap.size ≤ z) (hLb : w.heap.size ≤ Lb) :
    CSt S U Lb Y cv ov0 q w (w1.setCell ⟨Lb, 0, none⟩ lv') mv lv' ov M (left ++ F) out := by
  have hne : ∀ z, lv'.ownBlock = some z → z ≠ Lb := fun z hz e => hL.2 z hz (by rw [e]; exact .inr (.inr (.inl rfl)))
  have hset : ∀ k, k ≠ Lb → (w1.setCell ⟨Lb, 0, none⟩ lv').heap[k]? = w1.heap[k]? := fun k k1 => Below.heap_setCell _ _ _ _ k1
  have keep : ∀ k, k < wr.heap.size → some k ≠ lv.ownBlock → k ≠ Lb → (w1.setCell ⟨Lb, 0, none⟩ lv').heap[k]? = wr.heap[k]? := fun k k1 k2 k3 => (hset k k3).trans (hk k k1 k2)
  have hUl : U ≠ Lb := by have := h.ne; omega
  have hUo : some U ≠ lv.ownBlock := fun e => h.l.2 U e.symm (.inl rfl)
  have hsz : wr.heap.size ≤ (w1.setCell ⟨Lb, 0, none⟩ lv').heap.size := by simpa using hz
  have hUb := keep U h.ui.lt hUo hUl
  have cU : ∀ j u, wr.cell? ⟨U, j, none⟩ = some u → (w1.setCell ⟨Lb, 0, none⟩ lv').cell? ⟨U, j, none⟩ = some u := fun j u hu => (World.cell?_of_block (a := ⟨U, j, none⟩) hUb).trans hu
  have hov : ∀ z, ov.ownBlock = some z → some z ≠ lv.ownBlock ∧ z ≠ Lb := fun z hz => ⟨fun e => (h.ui.op z hz).2 (.inl e), fun e => (h.ui.op z hz).2 (.inr (.inl e))⟩
  have hyl : ∀ k, k < wr.heap.size → YL lv' (fun k => k = Lb ∨ Y k) k → YL lv (fun k => k = Lb ∨ Y k) k := fun k k1 hk => by
    rcases hk with e | e
    · rcases hat k e.symm with e2 | e2
      · exact .inl e2.symm
      · omega
    · exact .inr e
  have huk : FdX (fun k => k = U ∨ YL lv' (fun k => k = Lb ∨ Y k) k) S (w1.setCell ⟨Lb, 0, none⟩ lv') ov out := h.ui.o.keepX hsz (fun z hz => keep z (h.ui.o.lt z hz).2 (hov z hz).1 (hov z hz).2) (fun k k1 k2 => ⟨keep k k1 (fun e => k2 (.inr (.inr (.inl e)))) (fun e => k2 (.inr (.inr (.inr (.inl e))))), fun e => by
    rcases e with e | e
    · exact k2 (.inr (.inl e))
    · exact k2 (.inr (.inr (hyl k k1 e)))⟩)
  have hl2 : LN (ZS U ov (fun k => k = Lb ∨ Y k)) w.heap.size (w1.setCell ⟨Lb, 0, none⟩ lv') lv' (left ++ F) := hL.keepX (by simp) (fun k k1 k2 => ⟨hset k (fun e => k2 (.inr (.inr (.inl e)))), k2⟩)
  have hi2 : SxV (ZS U ov (YL lv' (fun k => k = Lb ∨ Y k))) (w1.setCell ⟨Lb, 0, none⟩ lv') mv M := hM.keep hsz (fun k k1 k2 => ⟨keep k k1 (fun e => k2 (.inr (.inr (.inl e)))) (fun e => k2 (.inr (.inr (.inr (.inl e))))), fun e => by
    rcases e with e | e | e
    · exact k2 (.inl e)
    · exact k2 (.inr (.inl e))
    · exact k2 (.inr (.inr (hyl k k1 e)))⟩)
  have htw : Tw U ov0 ov w (w1.setCell ⟨Lb, 0, none⟩ lv') := ⟨Nat.le_trans h.tw.1 hsz, fun k k1 k2 k3 => by
    obtain ⟨e1, n1⟩ := h.tw.2 k k1 k2 k3
    exact ⟨(keep k (Nat.lt_of_lt_of_le k1 h.tw.1) (fun e => by have := (h.l.lt k e.symm).1; omega) (by omega)).trans e1, n1⟩⟩
  exact ⟨⟨by have := h.ui.lt; omega, h.ui.s, cU 0 _ h.ui.c0, cU 1 _ h.ui.c1, cU 2 _ h.ui.c2, (World.frozen?_of_block (a := ⟨U, 1, none⟩) hUb).trans h.ui.f1, (World.frozen?_of_block (a := ⟨U, 2, none⟩) hUb).trans h.ui.f2, huk, fun z hz => ⟨(h.ui.op z hz).1, fun e => (h.ui.op z hz).2 (hyl z (h.ui.o.lt z hz).2 e)⟩⟩, hl2, hi2, htw, (h.bl.trans (hb.mono h.sw)).setCell (by have := h.sw; simp only; omega) _, World.cell?_setCell_same' _ _ _ (by rw [c1]; rfl), by rw [World.frozen?_setCell]; exact f1, by have := h.lt; simp; omega, h.ne, h.sw, h.y⟩
end
set_option maxHeartbeats 8000000 in
set_option maxRecDepth 100000 in
theorem chain_any {lo : Nat} (cs : List (List Ru)) (hc : CallsIn cs) (hv : ∀ l, l ∈ cs → rusvalid l = true) (v : Value) (w0 : World) (hs : Rss lo w0 v cs) (ht : Tab w0) :
    ∀ (f c : Nat) (inn : List Bx) (out : List Ft) (U : Nat) (Y : Nat → Prop) (ov iv : Value) (w : World), Ht cs f c → c < cs.length → Below w0.heap.size w0 w → (∀ k, Y k → k < w.heap.size) → Ui w0.heap.size U Y v false w ov out → SxV (ZS U ov Y) w iv inn → rvalid inn = true → out.length ≤ 60 →
      Calls Tryd.prog 34 #[.pointer (some ⟨U, 0, none⟩), .int .i64 (c : Int), iv] w (ChainR w0.heap.size (ufWalk cs f c inn out) U Y v ov w) := by
  obtain ⟨va, vc, rfl, hlc, hcm⟩ := hs.form
  unfold maxLen at hcm
  obtain ⟨n, hnn⟩ : ∃ n, cs.length = n := ⟨_, rfl⟩
  have HN := Lib.hid hnn
  have HCI := Lib.hid hc
  have HV := Lib.hid hv
  have HTB0 := Lib.hid ht
  intro f
  induction f with
  | zero => intro c inn out U Y ov iv w h; exact h.elim
  | succ f ih =>
    intro c inn out U Y ov iv w hHt hcn hb0 hY hU hin hvi ho60
    rw [hnn] at ih hcn hs hlc ⊢
    rw [hnn] at hU
    have HIH := Lib.hid ih
    have HS0 := Lib.hid hs
    obtain ⟨l, hx⟩ : ∃ l, cs[c]? = some l := ⟨_, List.getElem?_eq_getElem (by omega)⟩
    have HX := Lib.hid hx
    have HHT := Lib.hid (show ∀ x, x ∈ callsAt cs c → Ht cs f x from hHt)
    obtain ⟨R, hR⟩ : ∃ R, ufWalk cs (f + 1) c inn out = R := ⟨_, rfl⟩
    obtain ⟨S, hS0⟩ : ∃ S, w0.heap.size = S := ⟨_, rfl⟩
    obtain ⟨ia, ic, rfl, hil, him⟩ := hin.form
    unfold maxLen at him
    have HTab := Lib.hid (ht.below hb0)
    by_cases hi0 : inn.length = 0
    · have hin0 : inn = [] := List.eq_nil_of_length_eq_zero hi0
      subst hin0
      have HR := Lib.hid (show R = some ([], out) by rw [← hR]; exact ufWalk_nil hc (f + 1) c out hHt ho60)
      have HU := Lib.hid hU
      rw [hS0] at HU
      rw [hR, hS0]
      simp only [List.length_nil]
      clear hU hin hR ih hs hx hb0 hHt hi0 hil him
      go_enter Tryd.func34, Tryd.ntmps34
      go_wp2
      go_ret
      exact ⟨_, [], out, ov, false, rfl, Below.refl _ _, HU.out, SxV.nil _ _, by simp, Tw.refl _ _ _, .inl ⟨rfl, HR.out⟩⟩
    have HR := Lib.hid (show R = ufGo (ufWalk cs f) l inn [] out by rw [← hR, ufWalk, getD_get hx])
    rw [hR]
    obtain ⟨m, hm⟩ : ∃ m, inn.length = m := ⟨_, rfl⟩
    rw [hm] at hi0 hil hin ⊢
    have hm0 : ((m : Int) == 0) = false := by simpa using hi0
    rw [hS0] at hb0 hU HIH ⊢
    have HSS := Lib.hid hS0
    have HB0 := Lib.hid hb0
    have hSw : S ≤ w.heap.size := by have := hU.s; have := hU.lt; omega
    obtain ⟨W, hW⟩ : ∃ W, w.alloc (.cells #[.slice none 0 0] 81) = W := ⟨_, rfl⟩
    have hal : Below w.heap.size w W := by rw [← hW]; exact (Below.refl _ _).alloc (Nat.le_refl _) _
    have hzW : w.heap.size < W.heap.size := by rw [← hW]; simp
    have l0 : W.cell? ⟨w.heap.size, 0, none⟩ = some (.slice none 0 0) := by rw [← hW]; simp
    have lf : W.frozen? ⟨w.heap.size, 0, none⟩ = false := by rw [← hW]; exact frz_new w _ _ 0
    have hownlt : ∀ z, ov.ownBlock = some z → z < w.heap.size := fun z hz => (hU.o.lt z hz).2
    have HCS0 := Lib.hid (show CSt S U w.heap.size Y (.slice va n vc) ov false w W (.slice ia m ic) (.slice none 0 0) ov inn [] out from
      ⟨hU.older hal (fun k hk => by
          rcases hk with e | e | e
          · simp [Value.ownBlock] at e
          · exact .inr (by omega)
          · exact .inl e), LN.nil, hin.older hal (fun k hk => by
          rcases hk with e | e | e | e | e
          · exact .inr (.inl e)
          · exact .inr (.inr (.inl e))
          · simp [Value.ownBlock] at e
          · exact .inl (by omega)
          · exact .inr (.inr (.inr e))), Tw.of hal, hal.mono hSw, l0, lf, hzW, hU.lt, hSw, hY⟩)
    have u0 := (hal.cell (p := ⟨U, 0, none⟩) hU.lt).trans hU.c0
    have hb0W : Below w0.heap.size w0 W := by rw [hS0]; exact hb0.trans (hal.mono hSw)
    obtain ⟨b, o, sv, rfl, hbl, f0, hsv⟩ := HS0.out.at hx
    replace f0 := (hb0W.cell (p := ⟨b, o + c, none⟩) hbl).trans f0
    obtain ⟨sa, sc, rfl, hsl, hsm⟩ := hsv.form
    unfold maxLen at hsm
    obtain ⟨ln, hln⟩ : ∃ ln, l.length = ln := ⟨_, rfl⟩
    have HLN := Lib.hid hln
    rw [hln] at f0 hsv hsl
    have HSV := Lib.hid hsv
    have hln8 : ln ≤ 8 := by
      have h := hv l (List.mem_of_getElem? hx)
      unfold rusvalid at h
      rw [Bool.and_eq_true, decide_eq_true_eq] at h
      rw [← hln]; exact h.2
    have HVI := Lib.hid hvi
    have HR0 := Lib.hid (show R = ufGo (ufWalk cs f) (l.drop 0) inn [] out from HR.out)
    have HTW := Lib.hid (HTab.out.below hal)
    have hi1 : (0 : Int) ≤ (c : Int) := by omega
    have hi2 : (c : Int) < (n : Int) := by omega
    have HAL := Lib.hid hal
    clear hU hin hs hx hln hsv hR ih hHt hal hm hb0 l0 lf hownlt hY hvi HR HTab
    go_enter Tryd.func34, Tryd.ntmps34
    go_wp2_with fail
    clear hW
    go_loopw [8, 25] (fun iv i wr => ∃ (k : Nat) (ov1 lv : Value) (inn1 left : List Bx) (out1 : List Ft), k ≤ ln ∧ i = .int .i64 k ∧ Hid (CSt S U w.heap.size Y (.slice (some ⟨b, o, none⟩) n vc) ov false w wr iv lv ov1 inn1 left out1) ∧ Hid (rvalid inn1 = true) ∧ Hid (∀ z, z ∈ left → bvalid z = true) ∧ left.length ≤ 400 * k ∧ out1.length ≤ 60 ∧ Hid (R = ufGo (ufWalk cs f) (l.drop k) inn1 left out1)) (fun _ i _ => ln - (intOf i).toNat)
    case atStart => exact ⟨0, ov, _, inn, [], out, by omega, rfl, HCS0, HVI, Lib.hid (fun z hz => by simp at hz), by simp, ho60, HR0⟩
    case round =>
      clear HCS0 HR0 HVI f0 u0
      obtain ⟨k, ov1, lv, inn1, left, out1, hk, rfl, HC, HVI, HLV, hll, ho1, HR⟩ := hrel
      obtain ⟨ia1, ic1, hiv, hi3, hi4⟩ := HC.out.i.form
      unfold maxLen at hi4
      obtain ⟨m1, hm1⟩ : ∃ m1, inn1.length = m1 := ⟨_, rfl⟩
      rw [hm1] at hiv hi3
      subst hiv
      have HM1 := Lib.hid hm1
      have hm4 : m1 ≤ 400 := by rw [← hm1]; exact (rvalid_iff.1 HVI.out).1
      clear hm1
      have hzr := HC.out.tw.1
      by_cases hlt : k < ln
      · have j1 : (k : Int) < (ln : Int) := by omega
        have j2 : (0 : Int) ≤ (k : Int) := by omega
        obtain ⟨⟨ts, ra, rc⟩, hx2⟩ : ∃ x, l[k]? = some x := ⟨_, List.getElem?_eq_getElem (by rw [HLN.out]; exact hlt)⟩
        have HSVr := HSV.out.below (show Below w0.heap.size w0 wr by rw [HSS.out]; exact HB0.out.trans HC.out.bl)
        obtain ⟨bb, oo, tv, hsb, hbl2, g0, g1, g2, hts⟩ := HSVr.at hx2
        subst hsb
        obtain ⟨ta, tc, rfl, -, -⟩ := hts.form
        simp only at g0 g1 g2 hts
        have HOKR := HV.out l (List.mem_of_getElem? HX.out)
        have HTV := Lib.hid (show tsvalid ts = true from by
          unfold rusvalid at HOKR
          rw [Bool.and_eq_true, List.all_eq_true] at HOKR
          have h := HOKR.1 _ (List.mem_of_getElem? hx2)
          rw [ruok_eq] at h
          simp only [Bool.and_eq_true] at h
          exact h.1.1)
        have HDR := Lib.hid (drop_cons hx2)
        have HCI2 := Lib.hid (fun (h3 : ra = 3) => (show (0 ≤ rc ∧ rc < 5 ∧ rc < (n : Int)) ∧ ∀ q : Nat, rc = q → q ∈ callsAt cs c from ⟨by have := HCI.out l (List.mem_of_getElem? HX.out) _ (List.mem_of_getElem? hx2) h3; rw [HN.out] at this; exact this, fun q hq => by
          have := HCI.out l (List.mem_of_getElem? HX.out) _ (List.mem_of_getElem? hx2) h3
          simp only at this
          exact callsAt_mem.2 ⟨by omega, ⟨ts, ra, rc⟩, by rw [getD_get HX.out]; exact List.mem_of_getElem? hx2, h3, hq⟩⟩))
        have HTS := Lib.hid hts
        obtain ⟨tl, htl⟩ : ∃ tl, ts.length = tl := ⟨_, rfl⟩
        rw [htl] at g0 HTS
        obtain ⟨W4, hW4⟩ : ∃ W4, wr.alloc (.cells #[.slice ta tl tc, .int .i64 ra, .int .i64 rc] 34) = W4 := ⟨_, rfl⟩
        have hal4 : Below wr.heap.size wr W4 := by rw [← hW4]; exact (Below.refl _ _).alloc (Nat.le_refl _) _
        have hz4 : wr.heap.size < W4.heap.size := by rw [← hW4]; simp
        have e0 : W4.cell? ⟨wr.heap.size, 0, none⟩ = some (.slice ta tl tc) := by rw [← hW4]; simp
        have e1 : W4.cell? ⟨wr.heap.size, 1, none⟩ = some (.int .i64 ra) := by rw [← hW4]; simp
        have e2 : W4.cell? ⟨wr.heap.size, 2, none⟩ = some (.int .i64 rc) := by rw [← hW4]; simp
        have HE4 := Lib.hid (And.intro e0 (And.intro e1 e2))
        have HAL4 := Lib.hid hal4
        have HTS4 := Lib.hid (HTS.out.below hal4)
        have HTabr := Lib.hid (show Tab W4 from ht.below (show Below w0.heap.size w0 W4 by rw [HSS.out]; exact (HB0.out.trans HC.out.bl).trans (hal4.mono HC.out.s)))
        clear hts hx2 HOKR htl hal4 HSVr
        go_wp2_with fail
        clear hW4
        refine (testsSides_any HTS4.out HTV.out HTabr.out).mono ?_
        rintro e w5 ⟨a0, n0, p0, a1, n1, p1, a2, n2, p2, a3, n3, p3, rfl, hsd, hb5⟩
        have hbr5 := HAL4.out.trans (hb5.mono HAL4.out.size)
        have HC5 := Lib.hid (HC.out.below hbr5)
        have HBX := Lib.hid (tbox_valid HTV.out)
        obtain ⟨B, hB⟩ : ∃ B, tbox ts = B := ⟨_, rfl⟩
        have HB := Lib.hid hB
        rw [hB] at hsd HBX
        have hZ4 : ∀ z, ZS U ov1 (YL lv (fun k => k = w.heap.size ∨ Y k)) z → z < W4.heap.size := fun z hz => by
          have := ZS.ltU HC.out.ui HC.out.yl z hz
          omega
        have HSD := Lib.hid (hsd.mono (fun _ _ g => SpV.highX g hZ4))
        have HT5 := Lib.hid (HTabr.out.below hb5)
        have HB5 := Lib.hid (And.intro hb5 hbr5)
        clear hsd hB hZ4 hb5 hbr5
        go_wp2_with fail
        refine (divide_any w5 HT5.out HC5.out.ui HC5.out.i HVI.out HSD.out HBX.out HC5.out.yl).mono ?_
        rintro e w6 ⟨fv, mv, rfl, hb6, hok, hbad⟩
        obtain ⟨F, hF⟩ : ∃ F, ufit inn1 B = F := ⟨_, rfl⟩
        obtain ⟨Mi, hMi⟩ : ∃ Mi, umiss inn1 B = Mi := ⟨_, rfl⟩
        rw [hF, hMi] at hok hbad
        obtain ⟨D, hD⟩ : ∃ D, (rvalid F && rvalid Mi) = D := ⟨_, rfl⟩
        rw [hD] at hok hbad
        have HFM := Lib.hid (And.intro hF hMi)
        have HD := Lib.hid hD
        have HBAD6 := Lib.hid hbad
        have HOK6 := Lib.hid hok
        clear hok hbad hD hF hMi
        cases D
        · obtain ⟨hu6, ht6⟩ := HBAD6.out rfl
          have HBAD := Lib.hid (HC5.out.to hu6 ht6 hb6)
          have c3 := HBAD.out.ui.c2
          have HRN := Lib.hid (show R = none by
            rw [HR.out, HDR.out]
            refine ufGo_bad ?_
            rw [HB.out, HFM.out.1, HFM.out.2]
            have h := HD.out
            cases e1 : rvalid F
            · exact .inl rfl
            · rw [e1, Bool.true_and] at h; exact .inr h)
          clear hu6 ht6
          go_wp2
          go_ret
          exact HBAD.out.bad HRN.out
        · obtain ⟨hb56, hf6, hm6⟩ := HOK6.out rfl
          have hD2 := HD.out
          rw [Bool.and_eq_true] at hD2
          have HRF := Lib.hid hD2.1
          have HRM := Lib.hid hD2.2
          have HC6 := Lib.hid (HC5.out.below hb56)
          have hb46 := HB5.out.1.trans (hb56.mono HB5.out.1.size)
          have k0 := (hb46.cell (p := ⟨wr.heap.size, 0, none⟩) hz4).trans HE4.out.1
          have k1 := (hb46.cell (p := ⟨wr.heap.size, 1, none⟩) hz4).trans HE4.out.2.1
          have k2 := (hb46.cell (p := ⟨wr.heap.size, 2, none⟩) hz4).trans HE4.out.2.2
          have c3 := HC6.out.ui.c2
          obtain ⟨fa, fc, hfv, hf3, hf4⟩ := hf6.form
          obtain ⟨ma, mc, hmv, hm3, hm4'⟩ := hm6.form
          obtain ⟨nf, hnf⟩ : ∃ nf, F.length = nf := ⟨_, rfl⟩
          obtain ⟨nm, hnm⟩ : ∃ nm, Mi.length = nm := ⟨_, rfl⟩
          rw [hnf] at hfv hf3
          rw [hnm] at hmv hm3
          subst hfv
          subst hmv
          have HF6 := Lib.hid hf6
          have HM6 := Lib.hid hm6
          have HNF := Lib.hid (And.intro hnf hnm)
          have hnf4 : nf ≤ 400 := by rw [← hnf]; exact (rvalid_iff.1 HRF.out).1
          have hnm4 : nm ≤ 400 := by rw [← hnm]; exact (rvalid_iff.1 HRM.out).1
          have HVF := Lib.hid (rvalid_iff.1 HRF.out).2
          have HVM := Lib.hid (rvalid_iff.1 HRM.out).2
          have HUA := Lib.hid (show (∀ i l' o', ufAct (ufWalk cs f) ⟨ts, ra, rc⟩ F Mi left out1 = some (i, l', o') → R = if rvalid i && decide (o'.length ≤ 60) then ufGo (ufWalk cs f) (l.drop (k + 1)) i l' o' else none) ∧ (ufAct (ufWalk cs f) ⟨ts, ra, rc⟩ F Mi left out1 = none → R = none) from by
            have hF := HFM.out.1
            have hMi := HFM.out.2
            subst hF hMi
            rw [← HB.out] at HRF HRM ⊢
            exact ⟨fun i l' o' h => by rw [HR.out, HDR.out, ufGo_step HRF.out HRM.out h], fun h => by rw [HR.out, HDR.out, ufGo_none h]⟩)
          clear hf6 hm6 hnf hnm hD2 hb56 hb46 HBAD6 HOK6
          by_cases h1 : ra = 1
          · subst h1
            obtain ⟨O, hO⟩ : ∃ O, out1 ++ F.map (fun b => (⟨b, true⟩ : Ft)) = O := ⟨_, rfl⟩
            have HA := Lib.hid (show ufAct (ufWalk cs f) ⟨ts, 1, rc⟩ F Mi left out1 = some (Mi, left, O) by
              rw [← hO]
              unfold ufAct
              simp)
            go_wp2_with fail
            refine (actionOf1 _ _ _ _ _).mono ?_
            rintro e w7 ⟨rfl, hb7⟩
            have HC7 := Lib.hid (HC6.out.below hb7)
            have HF7 := Lib.hid (HF6.out.below hb7)
            have HM7 := Lib.hid (HM6.out.below hb7)
            clear k0 k1 k2 c3 hb7
            go_wp2_with fail
            refine (deciding_any true ma nm mc w7 HC7.out.ui HF7.out ho1 (by rw [HNF.out.1]; exact hnf4) HC7.out.yl).mono ?_
            rintro e w8 ⟨ov', rfl, hu8, ht8, hb8⟩
            rw [hO] at hu8
            have HC8 := Lib.hid ((HC7.out.on HM7.out).to hu8 ht8 hb8)
            clear hu8 ht8 hb8 hO
            have HZN := Lib.hid HNF.out.2
            by_cases h60 : 60 < O.length
            · rw [decide_eq_true h60] at HC8
              have HRN := Lib.hid (show R = none by
                rw [HUA.out.1 _ _ _ HA.out, decide_eq_false (show ¬ O.length ≤ 60 by omega), Bool.and_false]; rfl)
              have c2 := HC8.out.ui.c2
              have f2 := HC8.out.ui.f2
              go_wp2_with fail
              refine (ulimit_any ma nm mc _ c2 f2).mono ?_
              rintro e w9 ⟨rfl, hw9⟩
              rw [if_pos hnm4] at hw9
              subst hw9
              have HBAD := HC8
              go_wp2
              go_ret
              exact HBAD.out.bad HRN.out
            · rw [decide_eq_false h60] at HC8
              have H60 := Lib.hid (show O.length ≤ 60 by omega)
              have HV2 := HVM
              have HL2 := HLV
              have HLN2 := Lib.hid (show left.length ≤ 400 * (k + 1) by omega)
              have c2 := HC8.out.ui.c2
              have f2 := HC8.out.ui.f2
              have HR2 := Lib.hid (HUA.out.1 _ _ _ HA.out)
              clear HUA
              go_wp2_with fail
              refine (ulimit_any ma nm mc _ c2 f2).mono ?_
              rintro e w9 ⟨rfl, hw9⟩
              by_cases h4 : nm ≤ 400
              · rw [if_pos h4] at hw9
                subst hw9
                have HRV := Lib.hid (show rvalid (Mi) = true from rvalid_iff.2 ⟨by rw [HZN.out]; exact h4, HV2.out⟩)
                have HR3 := Lib.hid (show R = ufGo (ufWalk cs f) (l.drop (k + 1)) (Mi) (left) (O) by rw [HR2.out, HRV.out, decide_eq_true H60.out]; rfl)
                go_wp2
                go_roundw
                case rel => exact ⟨k + 1, _, _, _, _, _, by omega, by go_num, HC8, HRV, HL2, HLN2.out, H60.out, HR3⟩
                case measure => simp [intOf]; omega
              · exact absurd hnm4 h4
          · by_cases h2 : ra = 2
            · subst h2
              obtain ⟨O, hO⟩ : ∃ O, out1 ++ F.map (fun b => (⟨b, false⟩ : Ft)) = O := ⟨_, rfl⟩
              have HA := Lib.hid (show ufAct (ufWalk cs f) ⟨ts, 2, rc⟩ F Mi left out1 = some (Mi, left, O) by
                rw [← hO]
                unfold ufAct
                simp)
              go_wp2_with fail
              refine (actionOf2 _ _ _ _ _).mono ?_
              rintro e w7 ⟨rfl, hb7⟩
              have HC7 := Lib.hid (HC6.out.below hb7)
              have HF7 := Lib.hid (HF6.out.below hb7)
              have HM7 := Lib.hid (HM6.out.below hb7)
              clear k0 k1 k2 c3 hb7
              go_wp2_with fail
              refine (deciding_any false ma nm mc w7 HC7.out.ui HF7.out ho1 (by rw [HNF.out.1]; exact hnf4) HC7.out.yl).mono ?_
              rintro e w8 ⟨ov', rfl, hu8, ht8, hb8⟩
              rw [hO] at hu8
              have HC8 := Lib.hid ((HC7.out.on HM7.out).to hu8 ht8 hb8)
              clear hu8 ht8 hb8 hO
              have HZN := Lib.hid HNF.out.2
              by_cases h60 : 60 < O.length
              · rw [decide_eq_true h60] at HC8
                have HRN := Lib.hid (show R = none by
                  rw [HUA.out.1 _ _ _ HA.out, decide_eq_false (show ¬ O.length ≤ 60 by omega), Bool.and_false]; rfl)
                have c2 := HC8.out.ui.c2
                have f2 := HC8.out.ui.f2
                go_wp2_with fail
                refine (ulimit_any ma nm mc _ c2 f2).mono ?_
                rintro e w9 ⟨rfl, hw9⟩
                rw [if_pos hnm4] at hw9
                subst hw9
                have HBAD := HC8
                go_wp2
                go_ret
                exact HBAD.out.bad HRN.out
              · rw [decide_eq_false h60] at HC8
                have H60 := Lib.hid (show O.length ≤ 60 by omega)
                have HV2 := HVM
                have HL2 := HLV
                have HLN2 := Lib.hid (show left.length ≤ 400 * (k + 1) by omega)
                have c2 := HC8.out.ui.c2
                have f2 := HC8.out.ui.f2
                have HR2 := Lib.hid (HUA.out.1 _ _ _ HA.out)
                clear HUA
                go_wp2_with fail
                refine (ulimit_any ma nm mc _ c2 f2).mono ?_
                rintro e w9 ⟨rfl, hw9⟩
                by_cases h4 : nm ≤ 400
                · rw [if_pos h4] at hw9
                  subst hw9
                  have HRV := Lib.hid (show rvalid (Mi) = true from rvalid_iff.2 ⟨by rw [HZN.out]; exact h4, HV2.out⟩)
                  have HR3 := Lib.hid (show R = ufGo (ufWalk cs f) (l.drop (k + 1)) (Mi) (left) (O) by rw [HR2.out, HRV.out, decide_eq_true H60.out]; rfl)
                  go_wp2
                  go_roundw
                  case rel => exact ⟨k + 1, _, _, _, _, _, by omega, by go_num, HC8, HRV, HL2, HLN2.out, H60.out, HR3⟩
                  case measure => simp [intOf]; omega
                · exact absurd hnm4 h4
            · by_cases h4 : ra = 4
              · subst h4
                have HA := Lib.hid (show ufAct (ufWalk cs f) ⟨ts, 4, rc⟩ F Mi left out1 = some (Mi, left ++ F, out1) by
                  unfold ufAct
                  simp)
                go_wp2_with fail
                refine (actionOf4 _ _ _ _ _).mono ?_
                rintro e w7 ⟨rfl, hb7⟩
                have HC7 := Lib.hid (HC6.out.below hb7)
                have HF7 := Lib.hid (HF6.out.below hb7)
                have HM7 := Lib.hid (HM6.out.below hb7)
                clear k0 k1 k2 c3 hb7
                go_wp2_with fail
                refine (returning_any ma nm mc w7 HC7.out.lt HC7.out.c HC7.out.f HC7.out.l (.inr (.inr (.inl rfl))) (HF7.out.sub (fun z hz => by
                  rcases hz with e | e | e | e
                  · exact .inr (.inr (.inl e))
                  · exact .inl e
                  · exact .inr (.inl e)
                  · exact .inr (.inr (.inr e)))) (by rw [HNF.out.1]; omega) HC7.out.tw.1 (ZS.ltU HC7.out.ui (fun z hz => HC7.out.yl z (.inr hz)))).mono ?_
                rintro e w8 ⟨lv', w1, rfl, rfl, c1, f1, hL1, hb1, hz1, hk1, hat1⟩
                have HC8 := Lib.hid (HC7.out.leave HM7.out c1 f1 hL1 hb1 hz1 hk1 hat1 (Nat.le_refl _))
                clear c1 f1 hL1 hb1 hz1 hk1 hat1
                have HZN := Lib.hid HNF.out.2
                have H60 := Lib.hid ho1
                have HV2 := HVM
                have HL2 := Lib.hid (show ∀ z, z ∈ left ++ F → bvalid z = true from fun z hz => by
                  rcases List.mem_append.1 hz with h | h
                  · exact HLV.out z h
                  · exact HVF.out z h)
                have HLN2 := Lib.hid (show (left ++ F).length ≤ 400 * (k + 1) by rw [List.length_append, HNF.out.1]; omega)
                have c2 := HC8.out.ui.c2
                have f2 := HC8.out.ui.f2
                have HR2 := Lib.hid (HUA.out.1 _ _ _ HA.out)
                clear HUA
                go_wp2_with fail
                refine (ulimit_any ma nm mc _ c2 f2).mono ?_
                rintro e w9 ⟨rfl, hw9⟩
                by_cases h4 : nm ≤ 400
                · rw [if_pos h4] at hw9
                  subst hw9
                  have HRV := Lib.hid (show rvalid (Mi) = true from rvalid_iff.2 ⟨by rw [HZN.out]; exact h4, HV2.out⟩)
                  have HR3 := Lib.hid (show R = ufGo (ufWalk cs f) (l.drop (k + 1)) (Mi) (left ++ F) (out1) by rw [HR2.out, HRV.out, decide_eq_true H60.out]; rfl)
                  go_wp2
                  go_roundw
                  case rel => exact ⟨k + 1, _, _, _, _, _, by omega, by go_num, HC8, HRV, HL2, HLN2.out, H60.out, HR3⟩
                  case measure => simp [intOf]; omega
                · exact absurd hnm4 h4
              · by_cases h3 : ra = 3
                · subst h3
                  obtain ⟨⟨q0, q5, qn⟩, hcall⟩ := HCI2.out rfl
                  obtain ⟨qc, rfl⟩ := Int.eq_ofNat_of_zero_le q0
                  have hqn : qc < n := by omega
                  have HHq := Lib.hid (HHT.out qc (hcall qc rfl))
                  obtain ⟨RC, hRC⟩ : ∃ RC, ufWalk cs f qc F out1 = RC := ⟨_, rfl⟩
                  have HRC := Lib.hid hRC
                  have HA := Lib.hid (show ufAct (ufWalk cs f) ⟨ts, 3, (qc : Int)⟩ F Mi left out1 = RC.map (fun q => (Mi ++ q.1, left, q.2)) by
                    unfold ufAct
                    simp [hRC])
                  clear hRC hcall
                  go_wp2_with fail
                  refine (actionOf3 _ _ _ _ _).mono ?_
                  rintro e w7 ⟨rfl, hb7⟩
                  have HC7 := Lib.hid (HC6.out.below hb7)
                  have HF7 := Lib.hid (HF6.out.below hb7)
                  have HM7 := Lib.hid (HM6.out.below hb7)
                  clear k0 k1 k2 c3 hb7
                  have HCH := Lib.hid (show ∀ w1, Below w7.heap.size w7 w1 → Calls Tryd.prog 34 #[.pointer (some ⟨U, 0, none⟩), .int .i64 (qc : Int), .slice fa nf fc] w1 (ChainR S RC U (YL lv (fun k => k = w.heap.size ∨ Y k)) (.slice (some ⟨b, o, none⟩) n vc) ov1 w1) from fun w1 hb1 => by
                    have h := HIH.out qc F out1 U (YL lv (fun k => k = w.heap.size ∨ Y k)) ov1 (.slice fa nf fc) w1 HHq.out hqn (HB0.out.trans ((HC7.out.bl).trans (hb1.mono HC7.out.s))) (fun z hz => Nat.lt_of_lt_of_le (HC7.out.yl z hz) hb1.size) (HC7.out.ui.below hb1) (HF7.out.below hb1) HRF.out ho1
                    rw [HRC.out] at h
                    exact h)
                  go_wp2_with fail
                  refine (calling_w (qc : Int) w7 HC7.out.s HCH.out HM7.out (by rw [HNF.out.2]; omega) HC7.out.yl).mono ?_
                  rintro e w8 ⟨z, L, o2, ov2, q, rfl, hb8, hu8, hz8, hL8, ht8, hq8⟩
                  have HC8 := Lib.hid ((HC7.out.to hu8 ht8 hb8).on hz8)
                  obtain ⟨za, zc, hzv, -, -⟩ := hz8.form
                  obtain ⟨zn, hzn⟩ : ∃ zn, (Mi ++ L).length = zn := ⟨_, rfl⟩
                  rw [hzn] at hzv
                  subst hzv
                  have HZN := Lib.hid hzn
                  have HQ8 := Lib.hid hq8
                  clear hb8 hu8 hz8 ht8 hzn hq8
                  rcases HQ8.out with ⟨rfl, hq⟩ | ⟨rfl, hq⟩
                  · obtain ⟨hl1, hl2⟩ := ufWalk_len (HRC.out.trans hq) ho1
                    have H60 := Lib.hid hl2
                    have HVL := Lib.hid (rvalid_iff.1 (ufWalk_rv (HRC.out.trans hq))).2
                    have HV2 := Lib.hid (show ∀ z, z ∈ Mi ++ L → bvalid z = true from fun z hz => by
                      rcases List.mem_append.1 hz with h | h
                      · exact HVM.out z h
                      · exact HVL.out z h)
                    have HL2 := HLV
                    have HLN2 := Lib.hid (show left.length ≤ 400 * (k + 1) by omega)
                    replace HA := Lib.hid (show ufAct (ufWalk cs f) ⟨ts, 3, (qc : Int)⟩ F Mi left out1 = some (Mi ++ L, left, o2) by rw [HA.out, hq]; rfl)
                    clear hq hl1 hl2
                    have c2 := HC8.out.ui.c2
                    have f2 := HC8.out.ui.f2
                    have HR2 := Lib.hid (HUA.out.1 _ _ _ HA.out)
                    clear HUA
                    go_wp2_with fail
                    refine (ulimit_any za zn zc _ c2 f2).mono ?_
                    rintro e w9 ⟨rfl, hw9⟩
                    by_cases h4 : zn ≤ 400
                    · rw [if_pos h4] at hw9
                      subst hw9
                      have HRV := Lib.hid (show rvalid (Mi ++ L) = true from rvalid_iff.2 ⟨by rw [HZN.out]; exact h4, HV2.out⟩)
                      have HR3 := Lib.hid (show R = ufGo (ufWalk cs f) (l.drop (k + 1)) (Mi ++ L) (left) (o2) by rw [HR2.out, HRV.out, decide_eq_true H60.out]; rfl)
                      go_wp2
                      go_roundw
                      case rel => exact ⟨k + 1, _, _, _, _, _, by omega, by go_num, HC8, HRV, HL2, HLN2.out, H60.out, HR3⟩
                      case measure => simp [intOf]; omega
                    · rw [if_neg h4] at hw9
                      subst hw9
                      have HRN := Lib.hid (show R = none by
                        rw [HR2.out]
                        rw [show rvalid (Mi ++ L) = false from by rw [← Bool.not_eq_true, rvalid_iff, HZN.out]; intro h; omega]
                        rfl)
                      have HBAD := Lib.hid HC8.out.over
                      have c3 := HBAD.out.ui.c2
                      clear c2 f2
                      go_wp2
                      go_ret
                      exact HBAD.out.bad HRN.out
                  · have HRN := Lib.hid (show R = none from HUA.out.2 (by rw [HA.out, hq]; rfl))
                    have c2 := HC8.out.ui.c2
                    have f2 := HC8.out.ui.f2
                    clear hq
                    go_wp2_with fail
                    refine (ulimit_any za zn zc _ c2 f2).mono ?_
                    rintro e w9 ⟨rfl, hw9⟩
                    by_cases h4 : zn ≤ 400
                    · rw [if_pos h4] at hw9
                      subst hw9
                      have HBAD := HC8
                      go_wp2
                      go_ret
                      exact HBAD.out.bad HRN.out
                    · rw [if_neg h4] at hw9
                      subst hw9
                      have HBAD := Lib.hid HC8.out.over
                      have c3 := HBAD.out.ui.c2
                      clear c2 f2
                      go_wp2
                      go_ret
                      exact HBAD.out.bad HRN.out
                · have HA := Lib.hid (show ufAct (ufWalk cs f) ⟨ts, ra, rc⟩ F Mi left out1 = some (Mi ++ F, left, out1) by
                    unfold ufAct
                    simp [h1, h2, h3, h4])
                  go_wp2_with fail
                  refine (actionOf5 _ _ _ _ _ _ h1 h2 h3 h4).mono ?_
                  rintro e w7 ⟨rfl, hb7⟩
                  have HC7 := Lib.hid (HC6.out.below hb7)
                  have HF7 := Lib.hid (HF6.out.below hb7)
                  have HM7 := Lib.hid (HM6.out.below hb7)
                  clear k0 k1 k2 c3 hb7
                  go_wp2_with fail
                  refine (passing_any w7 HF7.out HM7.out (by rw [HNF.out.1]; omega) (by rw [HNF.out.2]; omega) (ZS.ltU HC7.out.ui HC7.out.yl)).mono ?_
                  rintro e w8 ⟨z, rfl, hz8, hb8⟩
                  have HC8 := Lib.hid ((HC7.out.below hb8).on hz8)
                  obtain ⟨za, zc, hzv, -, -⟩ := hz8.form
                  obtain ⟨zn, hzn⟩ : ∃ zn, (Mi ++ F).length = zn := ⟨_, rfl⟩
                  rw [hzn] at hzv
                  subst hzv
                  have HZN := Lib.hid hzn
                  have H60 := Lib.hid ho1
                  have HV2 := Lib.hid (show ∀ z, z ∈ Mi ++ F → bvalid z = true from fun z hz => by
                    rcases List.mem_append.1 hz with h | h
                    · exact HVM.out z h
                    · exact HVF.out z h)
                  have HL2 := HLV
                  have HLN2 := Lib.hid (show left.length ≤ 400 * (k + 1) by omega)
                  clear hb8 hz8 hzn
                  have c2 := HC8.out.ui.c2
                  have f2 := HC8.out.ui.f2
                  have HR2 := Lib.hid (HUA.out.1 _ _ _ HA.out)
                  clear HUA
                  go_wp2_with fail
                  refine (ulimit_any za zn zc _ c2 f2).mono ?_
                  rintro e w9 ⟨rfl, hw9⟩
                  by_cases h4 : zn ≤ 400
                  · rw [if_pos h4] at hw9
                    subst hw9
                    have HRV := Lib.hid (show rvalid (Mi ++ F) = true from rvalid_iff.2 ⟨by rw [HZN.out]; exact h4, HV2.out⟩)
                    have HR3 := Lib.hid (show R = ufGo (ufWalk cs f) (l.drop (k + 1)) (Mi ++ F) (left) (out1) by rw [HR2.out, HRV.out, decide_eq_true H60.out]; rfl)
                    go_wp2
                    go_roundw
                    case rel => exact ⟨k + 1, _, _, _, _, _, by omega, by go_num, HC8, HRV, HL2, HLN2.out, H60.out, HR3⟩
                    case measure => simp [intOf]; omega
                  · rw [if_neg h4] at hw9
                    subst hw9
                    have HRN := Lib.hid (show R = none by
                      rw [HR2.out]
                      rw [show rvalid (Mi ++ F) = false from by rw [← Bool.not_eq_true, rvalid_iff, HZN.out]; intro h; omega]
                      rfl)
                    have HBAD := Lib.hid HC8.out.over
                    have c3 := HBAD.out.ui.c2
                    clear c2 f2
                    go_wp2
                    go_ret
                    exact HBAD.out.bad HRN.out
      · have hkn : k = ln := by omega
        have HR2 := Lib.hid (show R = if rvalid (left ++ inn1) then some (left ++ inn1, out1) else none by
          rw [HR.out, List.drop_of_length_le (by rw [HLN.out]; omega)]; rfl)
        have j1 : ¬ (k : Int) < (ln : Int) := by omega
        obtain ⟨la, lc, hlv⟩ := HC.out.l.form
        obtain ⟨nl, hnl⟩ : ∃ nl, left.length = nl := ⟨_, rfl⟩
        rw [hnl] at hlv hll
        subst hlv
        have hl0 := HC.out.c
        obtain ⟨W2, hW2⟩ : ∃ W2, wr.alloc (.cells #[.slice la nl lc, .slice ia1 m1 ic1] 81) = W2 := ⟨_, rfl⟩
        have hal2 : Below wr.heap.size wr W2 := by rw [← hW2]; exact (Below.refl _ _).alloc (Nat.le_refl _) _
        have hg : wr.heap.size < W2.heap.size := by rw [← hW2]; simp
        have c0 : W2.cell? ⟨wr.heap.size, 0, none⟩ = some (.slice la nl lc) := by rw [← hW2]; simp
        have c1 : W2.cell? ⟨wr.heap.size, 1, none⟩ = some (.slice ia1 m1 ic1) := by rw [← hW2]; simp
        have hzx := ZS.ltU HC.out.ui (fun z (hz : z = w.heap.size ∨ Y z) => HC.out.yl z (.inr hz))
        have HCC := Lib.hid (concat_any W2 hg c0 c1 (HC.out.l.v.below hal2) ((HC.out.i.below hal2).sub (fun z hz => Or.imp id (Or.imp id .inr) hz)) (by rw [hnl]; omega) (by rw [HM1.out]; omega) (fun z hz => by have := hzx z hz; omega))
        have HNL := Lib.hid hnl
        have HAL2 := Lib.hid hal2
        clear hnl hal2 c0 c1 hzx
        go_wp2_with fail
        refine HCC.out.mono ?_
        rintro e w3 ⟨z3, rfl, hz3, hb3⟩
        have HC3 := Lib.hid (HC.out.below (HAL2.out.trans (hb3.mono HAL2.out.size)))
        have HZ3 := Lib.hid hz3.v
        obtain ⟨za, zc, hzv⟩ := hz3.form
        obtain ⟨zn, hzn⟩ : ∃ zn, (left ++ inn1).length = zn := ⟨_, rfl⟩
        rw [hzn] at hzv
        subst hzv
        have HZN := Lib.hid hzn
        have hzn4 : zn ≤ 4000 := by rw [← hzn, List.length_append, HNL.out, HM1.out]; omega
        have c2 := HC3.out.ui.c2
        have f2 := HC3.out.ui.f2
        have HV2 := Lib.hid (show ∀ z, z ∈ left ++ inn1 → bvalid z = true from fun z hz => by
          rcases List.mem_append.1 hz with h | h
          · exact HLV.out z h
          · exact (rvalid_iff.1 HVI.out).2 z h)
        clear hz3 hb3 hzn
        go_wp2_with fail
        refine (ulimit_any za zn zc _ c2 f2).mono ?_
        rintro e w9 ⟨rfl, hw9⟩
        by_cases h4 : zn ≤ 400
        · rw [if_pos h4] at hw9
          subst hw9
          have HR3 := Lib.hid (show R = some (left ++ inn1, out1) by
            rw [HR2.out, show rvalid (left ++ inn1) = true from rvalid_iff.2 ⟨by rw [HZN.out]; exact h4, HV2.out⟩]; rfl)
          go_wp2
          go_ret
          exact ⟨_, left ++ inn1, out1, ov1, false, rfl, HC3.out.bl, HC3.out.ui.sub (fun z hz => .inr (.inr hz)), HZ3.out.sub (fun z hz => Or.imp id (Or.imp id .inr) hz), by rw [HZN.out]; exact hzn4, HC3.out.tw, .inl ⟨rfl, HR3.out⟩⟩
        · rw [if_neg h4] at hw9
          subst hw9
          have HR3 := Lib.hid (show R = none by
            rw [HR2.out, show rvalid (left ++ inn1) = false from by rw [← Bool.not_eq_true, rvalid_iff, HZN.out]; intro h; omega]; rfl)
          have HBAD := Lib.hid HC3.out.over
          have HZ4 := Lib.hid (HZ3.out.tw HC3.out.ui.over.2.1)
          go_wp2
          go_ret
          exact ⟨_, left ++ inn1, out1, ov1, true, rfl, HBAD.out.bl, HBAD.out.ui.sub (fun z hz => .inr (.inr hz)), HZ4.out.sub (fun z hz => Or.imp id (Or.imp id .inr) hz), by rw [HZN.out]; exact hzn4, HBAD.out.tw, .inr ⟨rfl, HR3.out⟩⟩
end Go.Proofs.YtfcbbahlhjdefaaDoor
