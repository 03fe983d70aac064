/- Rulesets: how they lie in memory, and the exact law's helpers over them. -/
import Derived.Test.YtfcbbahlhjdefaaGreatDoorFmC
import Derived.Test.YtfcbbahlhjdefaaGreatDoorFnX
import Derived.Test.YtfcbbahlhjdefaaGreatDoorDt
import Derived.Test.YtfcbbahlhjdefaaGreatDoorRuP
namespace Go.Proofs.YtfcbbahlhjdefaaGreatDoor
open Go.RowKit
instance : DecidableEq Te := fun ⟨a, b, c, d⟩ ⟨a', b', c', d'⟩ => if h : a = a' ∧ b = b' ∧ c = c' ∧ d = d' then .isTrue (by obtain ⟨rfl, rfl, rfl, rfl⟩ := h; rfl) else .isFalse (fun e => h (by cases e; exact ⟨rfl, rfl, rfl, rfl⟩))
instance : DecidableEq Ru := fun ⟨a, b, c⟩ ⟨a', b', c'⟩ => if h : a = a' ∧ b = b' ∧ c = c' then .isTrue (by obtain ⟨rfl, rfl, rfl⟩ := h; rfl) else .isFalse (fun e => h (by cases e; exact ⟨rfl, rfl, rfl⟩))
abbrev OwnTe (base : Nat) (w : World) (v : Value) (ts : List Te) : Prop := OwnSl base 159 4 Te.enc w v ts
def RetTe (ts : List Te) (w : World) (e : Ending) (w' : World) : Prop := ∃ v, e = .returned v ∧ OwnTe w.heap.size w' v ts ∧ Below w.heap.size w w'
def Tss (lo : Nat) (w : World) (v : Value) (ts : List Te) : Prop := SlFr lo 4 Te.enc w v ts
theorem Tss.z {lo : Nat} {w : World} {v : Value} {ts : List Te} (h : Tss lo w v ts) : Tes w v ts := SlFr.at h
theorem Tss.mono {lo lo' : Nat} {w : World} {v : Value} {ts : List Te} (h : Tss lo w v ts) (hl : lo' ≤ lo) : Tss lo' w v ts := SlFr.mono h hl
theorem Tss.below {lo : Nat} {w w' : World} {v : Value} {ts : List Te} (h : Tss lo w v ts) (hb : Below w.heap.size w w') : Tss lo w' v ts := SlFr.below h hb
theorem Tss.keep {lo : Nat} {w w' : World} {v : Value} {ts : List Te} (h : Tss lo w v ts) (hw : Kp lo w w') : Tss lo w' v ts := SlFr.keep h hw
theorem Tss.form {lo : Nat} {w : World} {v : Value} {ts : List Te} (h : Tss lo w v ts) : ∃ a cap, v = .slice a ts.length cap ∧ ts.length ≤ cap ∧ cap ≤ maxLen := let ⟨a, c, e, h1, h2, _⟩ := h; ⟨a, c, e, h1, h2⟩
theorem Tes.s {w : World} {v : Value} {ts : List Te} (h : Tes w v ts) : Tss 0 w v ts := SlFr.of h
/-- A rule in memory. -/
structure RR where
  s : Value
  act : Int
  ch : Int
abbrev RR.enc (r : RR) : List Value := [r.s, .int .i64 r.act, .int .i64 r.ch]
def RR.ok (lo : Nat) (w : World) (q : RR) (r : Ru) : Prop := Tss lo w q.s r.ts ∧ q.act = r.act ∧ q.ch = r.ch
def Rus (lo : Nat) (w : World) (v : Value) (rs : List Ru) : Prop := ∃ qs, SlFr lo 3 RR.enc w v qs ∧ All2 (RR.ok lo w) qs rs
def Rss (lo : Nat) (w : World) (v : Value) (cs : List (List Ru)) : Prop := ∃ vs, SlFr lo 1 enc1 w v vs ∧ All2 (Rus lo w) vs cs
theorem Rus.keep {lo : Nat} {w w' : World} {v : Value} {rs : List Ru} (h : Rus lo w v rs) (hw : Kp lo w w') : Rus lo w' v rs :=
  let ⟨qs, h1, h2⟩ := h; ⟨qs, h1.keep hw, h2.mono (fun _ _ g => ⟨g.1.keep hw, g.2⟩)⟩
theorem Rus.below {lo : Nat} {w w' : World} {v : Value} {rs : List Ru} (h : Rus lo w v rs) (hb : Below w.heap.size w w') : Rus lo w' v rs := h.keep (Kp.of hb)
theorem Rus.mono {lo lo' : Nat} {w : World} {v : Value} {rs : List Ru} (h : Rus lo w v rs) (hl : lo' ≤ lo) : Rus lo' w v rs :=
  let ⟨qs, h1, h2⟩ := h; ⟨qs, h1.mono hl, h2.mono (fun _ _ g => ⟨g.1.mono hl, g.2⟩)⟩
theorem Rus.form {lo : Nat} {w : World} {v : Value} {rs : List Ru} (h : Rus lo w v rs) : ∃ a cap, v = .slice a rs.length cap ∧ rs.length ≤ cap ∧ cap ≤ maxLen := by
  obtain ⟨qs, ⟨a, cap, rfl, h1, h2, _⟩, h3⟩ := h
  exact ⟨a, cap, by rw [h3.1], by rw [← h3.1]; exact h1, h2⟩
theorem Rus.at {lo : Nat} {w : World} {a : Option Addr} {n cap : Nat} {rs : List Ru} (h : Rus lo w (.slice a n cap) rs) {k : Nat} {r : Ru} (hk : rs[k]? = some r) :
    ∃ b o sv, a = some ⟨b, o, none⟩ ∧ b < w.heap.size ∧ w.cell? ⟨b, o + k * 3, none⟩ = some sv ∧ w.cell? ⟨b, o + k * 3 + 1, none⟩ = some (.int .i64 r.act) ∧ w.cell? ⟨b, o + k * 3 + 2, none⟩ = some (.int .i64 r.ch) ∧ Tss lo w sv r.ts := by
  obtain ⟨qs, ⟨a', cap', he, _, _, hx⟩, h2⟩ := h
  obtain ⟨rfl, _, _⟩ := Value.slice.inj he
  obtain ⟨q, hq, h3⟩ := h2.left hk
  obtain ⟨b, o, ha, _, hb, hc⟩ := hx k q hq
  refine ⟨b, o, q.s, ha, hb, by simpa using hc 0 _ rfl, ?_, ?_, h3.1⟩
  · rw [← h3.2.1]; exact hc 1 _ rfl
  · rw [← h3.2.2]; exact hc 2 _ rfl
theorem Rss.keep {lo : Nat} {w w' : World} {v : Value} {cs : List (List Ru)} (h : Rss lo w v cs) (hw : Kp lo w w') : Rss lo w' v cs :=
  let ⟨vs, h1, h2⟩ := h; ⟨vs, h1.keep hw, h2.mono (fun _ _ g => g.keep hw)⟩
theorem Rss.below {lo : Nat} {w w' : World} {v : Value} {cs : List (List Ru)} (h : Rss lo w v cs) (hb : Below w.heap.size w w') : Rss lo w' v cs := h.keep (Kp.of hb)
theorem Rss.mono {lo lo' : Nat} {w : World} {v : Value} {cs : List (List Ru)} (h : Rss lo w v cs) (hl : lo' ≤ lo) : Rss lo' w v cs :=
  let ⟨vs, h1, h2⟩ := h; ⟨vs, h1.mono hl, h2.mono (fun _ _ g => g.mono hl)⟩
theorem Rss.form {lo : Nat} {w : World} {v : Value} {cs : List (List Ru)} (h : Rss lo w v cs) : ∃ a cap, v = .slice a cs.length cap ∧ cs.length ≤ cap ∧ cap ≤ maxLen := by
  obtain ⟨qs, ⟨a, cap, rfl, h1, h2, _⟩, h3⟩ := h
  exact ⟨a, cap, by rw [h3.1], by rw [← h3.1]; exact h1, h2⟩
theorem Rss.at {lo : Nat} {w : World} {a : Option Addr} {n cap : Nat} {cs : List (List Ru)} (h : Rss lo w (.slice a n cap) cs) {k : Nat} {rs : List Ru} (hk : cs[k]? = some rs) :
    ∃ b o sv, a = some ⟨b, o, none⟩ ∧ b < w.heap.size ∧ w.cell? ⟨b, o + k, none⟩ = some sv ∧ Rus lo w sv rs := by
  obtain ⟨vs, ⟨a', cap', he, _, _, hx⟩, h2⟩ := h
  obtain ⟨rfl, _, _⟩ := Value.slice.inj he
  obtain ⟨v, hv, h3⟩ := h2.left hk
  obtain ⟨b, o, ha, _, hb, hc⟩ := hx k v hv
  exact ⟨b, o, v, ha, hb, by simpa using hc 0 _ rfl, h3⟩
/-! Of the call's own. -/
def PTe (w : World) (lo hi : Nat) (v : Value) (ts : List Te) : Prop := OwnI 159 4 Te.enc w lo hi v ts
theorem PTe.kind : Kind PTe := ⟨fun _ => OwnI.le, fun _ _ _ _ _ _ h hw => OwnI.keep h hw⟩
theorem PTe.keep {w w' : World} {lo hi : Nat} {v : Value} {ts : List Te} (h : PTe w lo hi v ts) (hw : Kpi lo hi w w') : PTe w' lo hi v ts := OwnI.keep h hw
theorem PTe.mono {w : World} {lo lo' hi hi' : Nat} {v : Value} {ts : List Te} (h : PTe w lo hi v ts) (hl : lo' ≤ lo) (hh : hi ≤ hi') : PTe w lo' hi' v ts := ⟨OwnSl.mono h.1 hl, fun x hx => Nat.lt_of_lt_of_le (h.2.1 x hx) hh, Nat.le_trans hl (Nat.le_trans h.2.2 hh)⟩
theorem PTe.tss {w : World} {lo hi : Nat} {v : Value} {ts : List Te} (h : PTe w lo hi v ts) : Tss lo w v ts := OwnSl.fr (sz := 4) (enc := Te.enc) (fun _ => rfl) h.1
def PRg (w : World) (lo hi : Nat) (q : RR) (r : Ru) : Prop := PTe w lo hi q.s r.ts ∧ q.act = r.act ∧ q.ch = r.ch
theorem PRg.kind : Kind PRg := ⟨fun _w _l _h _x _y hp => PTe.kind.le _ _ _ _ _ hp.1, fun _ _ _ _ _ _ h hw => ⟨PTe.kind.keep _ _ _ _ _ _ h.1 hw, h.2⟩⟩
theorem PRg.le {w : World} : ∀ l h (q : RR) (r : Ru), PRg w l h q r → l ≤ h := PRg.kind.le w
/-- Rules of the call's own. -/
def GRu : World → Nat → Nat → Value → List Ru → Prop := OwnG 101 3 RR.enc PRg
theorem GRu.kind : Kind GRu := OwnG.kind PRg.kind
theorem GRu.le {w : World} : ∀ l h (v : Value) (r : List Ru), GRu w l h v r → l ≤ h := GRu.kind.le w
theorem GRu.rus {w : World} {lo hi : Nat} {v : Value} {rs : List Ru} (h : GRu w lo hi v rs) : Rus lo w v rs := by
  obtain ⟨qs, h1, h2, h3, h4⟩ := h
  exact ⟨qs, OwnSl.fr (sz := 3) (enc := RR.enc) (fun _ => rfl) h1, h4.all2 (PRg.kind.leO w _) (fun l m x y g1 _ g3 => ⟨(PTe.tss g3.1.1).mono g1, g3.1.2⟩)⟩
/-- Chains of the call's own. -/
def GRc : World → Nat → Nat → Value → List (List Ru) → Prop := OwnG 96 1 enc1 GRu
theorem GRc.kind : Kind GRc := OwnG.kind GRu.kind
theorem GRc.rss {w : World} {lo hi : Nat} {v : Value} {cs : List (List Ru)} (h : GRc w lo hi v cs) : Rss lo w v cs := by
  obtain ⟨vs, h1, h2, h3, h4⟩ := h
  exact ⟨vs, OwnSl.fr (sz := 1) (enc := enc1) (fun _ => rfl) h1, h4.all2 (GRu.kind.leO w _) (fun l m x y g1 _ g3 => (GRu.rus g3.1).mono g1)⟩
theorem GRu.form {w : World} {lo hi : Nat} {v : Value} {rs : List Ru} (h : GRu w lo hi v rs) : ∃ a cap, v = .slice a rs.length cap ∧ rs.length ≤ cap ∧ cap ≤ maxLen := h.rus.form
theorem GRc.form {w : World} {lo hi : Nat} {v : Value} {cs : List (List Ru)} (h : GRc w lo hi v cs) : ∃ a cap, v = .slice a cs.length cap ∧ cs.length ≤ cap ∧ cap ≤ maxLen := h.rss.form
theorem OwnI.hi {α : Type} {e sz : Nat} {enc : α → List Value} {w : World} {lo hi hi' : Nat} {v : Value} {xs : List α} (h : OwnI e sz enc w lo hi v xs) (hh : hi ≤ hi') : OwnI e sz enc w lo hi' v xs := ⟨h.1, fun x hx => Nat.lt_of_lt_of_le (h.2.1 x hx) hh, Nat.le_trans h.2.2 hh⟩
theorem OwnG.hi {α β : Type} {e sz : Nat} {enc : α → List Value} {P : World → Nat → Nat → α → β → Prop} {w : World} {lo hi hi' : Nat} {v : Value} {ys : List β} (h : OwnG e sz enc P w lo hi v ys) (hh : hi ≤ hi') : OwnG e sz enc P w lo hi' v ys :=
  let ⟨vs, h1, h2, h3, h4⟩ := h; ⟨vs, h1, fun x hx => Nat.lt_of_lt_of_le (h2 x hx) hh, Nat.le_trans h3 hh, h4.hi hh⟩
theorem infoTe : (Tryz.prog.info? 159).map (fun i => (i.zero, i.size, i.bytes)) = some (some (.agg #[.int .i64 0, .int .i64 0, .int .i64 0, .bool false]), 4, 32) := by kernel_rfl
theorem infoRu : (Tryz.prog.info? 101).map (fun i => (i.zero, i.size, i.bytes)) = some (some (.agg #[.slice none 0 0, .int .i64 0, .int .i64 0]), 3, 40) := by kernel_rfl
theorem infoRl : (Tryz.prog.info? 96).map (fun i => (i.zero, i.size, i.bytes)) = some (some (.slice none 0 0), 1, 24) := by kernel_rfl
set_option maxHeartbeats 1000000 in
theorem eqTest_b {f1 f2 f3 g1 g2 g3 : Int} {f4 g4 : Bool} {r : Bool} (h : decide ((⟨f1, f2, f3, f4⟩ : Te) = ⟨g1, g2, g3, g4⟩) = r) (w : World) :
    Calls Tryz.prog 137 #[.agg #[.int .i64 f1, .int .i64 f2, .int .i64 f3, .bool f4], .agg #[.int .i64 g1, .int .i64 g2, .int .i64 g3, .bool g4]] w fun e w' => e = .returned (.bool r) ∧ Below w.heap.size w w' := by
  subst h
  cases f4 <;> cases g4
  all_goals
    go_enter Tryz.func137, Tryz.ntmps137
    go_wp2
    all_goals (go_ret; refine ⟨ret_bool ?_, by (repeat' (first | with_reducible exact Below.refl _ _ | with_reducible assumption | with_reducible refine Below.setCell ?_ ?_ _ | with_reducible refine Below.alloc ?_ ?_ _ | with_reducible refine Below.drew ?_ | with_reducible refine belDrewN ?_ _ | with_reducible refine Below.trans ?_ (Below.mono (by assumption) ?_) | omega | (simp; omega) | (simp; done)))⟩)
    all_goals (by_cases e1 : f1 = g1 <;> by_cases e2 : f2 = g2 <;> by_cases e3 : f3 = g3 <;> simp_all)
set_option maxHeartbeats 1000000 in
theorem toTest_any (a b c : Int) (d : Bool) (w : World) :
    Calls Tryz.prog 135 #[.agg #[.int .i64 a, .int .i64 b, .int .i64 c, .bool d]] w fun e w' => e = .returned (.agg #[.int .i64 a, .int .i64 b, .int .i64 c, .bool d]) ∧ Below w.heap.size w w' := by
  go_enter Tryz.func135, Tryz.ntmps135
  go_wp2
  exact bodyPost_ret (v := .agg #[.int .i64 a, .int .i64 b, .int .i64 c, .bool d]) (by simp [results, Tryz.results135, go_sem]) rfl ⟨rfl, by (repeat' (first | with_reducible exact Below.refl _ _ | with_reducible assumption | with_reducible refine Below.setCell ?_ ?_ _ | with_reducible refine Below.alloc ?_ ?_ _ | with_reducible refine Below.drew ?_ | with_reducible refine belDrewN ?_ _ | with_reducible refine Below.trans ?_ (Below.mono (by assumption) ?_) | omega | (simp; omega) | (simp; done)))⟩
def TemarkAt (k : Nat) (i : Nat) : Te := ⟨((k + 4 * i + 0 : Nat) : Int), ((k + 4 * i + 1 : Nat) : Int), ((k + 4 * i + 2 : Nat) : Int), accm (k + 4 * i + 3)⟩
def Temarks (k n : Nat) : List Te := (List.range n).map (TemarkAt k)
set_option maxHeartbeats 1000000 in
theorem toTestS_any (xs : List Te) (v : Value) (w : World) (hs : Tes w v xs) (hn : xs.length ≤ 1048576) : Calls Tryz.prog 128 #[v] w (RetTe xs w) := by
  obtain ⟨a, cap, rfl, hlc, hcm, -⟩ := id hs
  unfold maxLen at hcm
  obtain ⟨i0, hi, hz0, hz1, hz2⟩ := info_parts infoTe
  go_enter Tryz.func128, Tryz.ntmps128
  go_wp2_with (at_make; refine wpList_make_full _ rfl _ _ 99 rfl w.heap.size 159 i0 _ 4 Tryz.underlying99 hi hz0 hz1 _ _ _ _ xs.length rfl rfl rfl rfl ?b1 ?b2 ?b3 ?_)
  case b1 => rw [hz2]; omega
  case b2 => simp only [maxLen]; omega
  case b3 => omega
  intro w1 hown1 hgrow1
  have hb1 : Below w.heap.size w w1 := (Below.refl _ _).grown hgrow1 (Nat.le_refl _) (fun k hk => by cases hk)
  have HO1 := Lib.hid (show OwnTe w.heap.size w1 (.slice (some ⟨w.heap.size, 0, none⟩) xs.length xs.length) (List.replicate xs.length (⟨0, 0, 0, false⟩ : Te)) by unfold OwnTe OwnSl; rw [List.length_replicate, ← madeFlat (sz := 4) (enc := Te.enc) (fun _ => rfl) (by omega) (.agg #[.int .i64 0, .int .i64 0, .int .i64 0, .bool false]) ⟨0, 0, 0, false⟩ rfl]; exact hown1)
  clear hown1 hgrow1
  go_wp2_with fail
  go_loopw [4] (fun i wr => ∃ k : Nat, k ≤ xs.length ∧ i = .int .i64 k ∧ OwnTe w.heap.size wr (.slice (some ⟨w.heap.size, 0, none⟩) xs.length xs.length) (xs.take k ++ List.replicate (xs.length - k) (⟨0, 0, 0, false⟩ : Te)) ∧ Below w.heap.size w wr) (fun i _ => xs.length - (intOf i).toNat)
  case atStart => exact ⟨0, by omega, rfl, by simpa using HO1.out, hb1⟩
  case round =>
    obtain ⟨k, hk, rfl, hown, hbr⟩ := hrel
    have HO := Lib.hid hown; clear hown HO1 hb1
    have hs2 := Lib.hid (hs.below hbr)
    have hzr := hbr.size
    by_cases hlt : k < xs.length
    · obtain ⟨b, o, f1, f2, f3, f4, rfl, hbl, hx, c0, c1, c2, c3⟩ := hs2.out.at hlt
      have HX := Lib.hid hx; clear hx
      have hgb : w.heap.size < wr.heap.size := by
        rcases OwnSl.form HO.out with ⟨h, _⟩ | ⟨g, cp, h, _, h2, _⟩
        · cases h
        · obtain ⟨h3, _, _⟩ := Value.slice.inj h; cases h3; exact h2
      go_wp2_with fail
      refine (toTest_any _ _ _ _ _).mono ?_
      rintro e w2 ⟨rfl, hb2⟩
      have HO2 := Lib.hid (OwnSl.kept HO.out hb2)
      have hz2' := hb2.size
      have hlen : (xs.take k ++ List.replicate (xs.length - k) (⟨0, 0, 0, false⟩ : Te)).length = xs.length := by simp; omega
      have HL := Lib.hid hlen; clear hlen
      obtain ⟨hst, hgr⟩ := OwnSl.store (sz := 4) (enc := Te.enc) (fun _ => rfl) HL.out.symm HO2.out (k := k) (by rw [HL.out]; exact hlt) (⟨f1, f2, f3, f4⟩ : Te)
      have HST := Lib.hid hst; have HGR := Lib.hid hgr; clear hst hgr
      have hfz : ∀ j, w2.frozen? ⟨w.heap.size, j, none⟩ = false := OwnSl.frz HO2.out
      have hcz := OwnSl.cell (sz := 4) (enc := Te.enc) (fun _ => rfl) HO2.out (k := k) (y := (⟨0, 0, 0, false⟩ : Te)) (by rw [List.getElem?_append_right (List.length_take_le _ _), List.length_take, Nat.min_eq_left hk, Nat.sub_self, List.getElem?_replicate, if_pos (by omega)])
      have d0 := hcz 0 _ rfl; have d1 := hcz 1 _ rfl; have d2 := hcz 2 _ rfl; have d3 := hcz 3 _ rfl
      simp only [Nat.add_zero] at d0
      clear hcz c0 c1 c2 c3
      go_wp2
      go_roundw
      case rel =>
        refine ⟨k + 1, by omega, by go_num, ?_, ?_⟩
        · have e1 : (xs.take k ++ List.replicate (xs.length - k) (⟨0, 0, 0, false⟩ : Te)).set k ⟨f1, f2, f3, f4⟩ = xs.take (k + 1) ++ List.replicate (xs.length - (k + 1)) ⟨0, 0, 0, false⟩ := by
            rw [List.set_append_right _ _ (by simp; omega), List.take_add_one, HX.out, List.append_assoc]
            refine congrArg (xs.take k ++ ·) ?_
            rw [show xs.length - k = (xs.length - (k + 1)) + 1 from by omega, List.replicate_succ, List.length_take, Nat.min_eq_left hk]
            simp
          rw [← e1]
          exact HST.out
        · exact (hbr.trans (hb2.mono (by omega))).grown HGR.out (by omega) (fun k hk => by cases hk; omega)
      case measure => simp [intOf]; omega
    · have HE := Lib.hid (show k = xs.length by omega)
      go_wp2
      go_ret
      refine ⟨_, rfl, ?_, hbr⟩
      have := HO.out
      rw [HE.out] at this
      simpa using this
set_option maxHeartbeats 400000 in
theorem szTestS_any (a : Option Addr) (n cap : Nat) (l : Int) (hn : (n : Int) ≤ 9223372036854775807) (h0 : 0 ≤ l) (h1 : l ≤ 9223372036854775807) (w : World) : Calls Tryz.prog 127 #[.slice a n cap, .int .i64 l] w fun e w' => e = .returned (.int .i64 (if l < n then -1 else l - n)) ∧ w = w' := by
  by_cases h : l < n
  · rw [if_pos h]
    go_enter Tryz.func127, Tryz.ntmps127
    go_wp2
    go_ret
    exact ⟨rfl, rfl⟩
  · rw [if_neg h]
    go_enter Tryz.func127, Tryz.ntmps127
    go_wp2
    go_ret
    exact ⟨rfl, rfl⟩
set_option maxHeartbeats 1000000 in
theorem eqTestS_any (xs ys : List Te) (v u : Value) (w : World) (hs : Tes w v xs) (hu : Tes w u ys) : Calls Tryz.prog 130 #[v, u] w fun e w' => e = .returned (.bool (decide (xs = ys))) ∧ Below w.heap.size w w' := by
  obtain ⟨a, cap, rfl, hlc, hcm, -⟩ := id hs
  obtain ⟨a', cap', rfl, hlc', hcm', -⟩ := id hu
  unfold maxLen at hcm hcm'
  by_cases hne : xs.length = ys.length
  · have HN := Lib.hid hne; clear hne
    obtain ⟨m, hm⟩ : ∃ m, ys.length = m := ⟨_, rfl⟩
    have hm2 : m = xs.length := by rw [← hm]; exact HN.out.symm
    rw [hm, hm2]
    have HM := Lib.hid hm; have HM2 := Lib.hid hm2; clear hm hm2
    go_enter Tryz.func130, Tryz.ntmps130
    go_wp2_with fail
    go_loopw [5] (fun i wr => ∃ k : Nat, k ≤ xs.length ∧ i = .int .i64 k ∧ xs.take k = ys.take k ∧ Below w.heap.size w wr) (fun i _ => xs.length - (intOf i).toNat)
    case atStart => exact ⟨0, by omega, rfl, rfl, by (repeat' (first | with_reducible exact Below.refl _ _ | with_reducible assumption | with_reducible refine Below.setCell ?_ ?_ _ | with_reducible refine Below.alloc ?_ ?_ _ | with_reducible refine Below.drew ?_ | with_reducible refine belDrewN ?_ _ | with_reducible refine Below.trans ?_ (Below.mono (by assumption) ?_) | omega | (simp; omega) | (simp; done)))⟩
    case round =>
      obtain ⟨k, hk, rfl, hq, hbr⟩ := hrel
      have HQ := Lib.hid hq; clear hq
      have hs2 := Lib.hid (hs.below hbr); have hu2 := Lib.hid (hu.below hbr)
      have hzr := hbr.size
      by_cases hlt : k < xs.length
      · have hu3 := hu2.out; rw [HM.out, HM2.out] at hu3
        obtain ⟨b, o, f1, f2, f3, f4, rfl, hbl, hx, c0, c1, c2, c3⟩ := hs2.out.at hlt
        obtain ⟨b', o', g1, g2, g3, g4, rfl, hbl', hy, d0, d1, d2, d3⟩ := hu3.at (show k < ys.length by rw [HM.out, HM2.out]; exact hlt)
        have HX := Lib.hid hx; have HY := Lib.hid hy; clear hx hy hu3
        have i1 : (k : Int) < (xs.length : Int) := by omega
        by_cases he : (⟨f1, f2, f3, f4⟩ : Te) = ⟨g1, g2, g3, g4⟩
        · have HE := Lib.hid he; clear he
          go_wp2_with fail
          refine wp_region_over (by kernel_rfl) (by kernel_rfl) (fun ov => ?_); have ov0 := fun x => ov x (b) (by (try simp) <;> omega); have ov1 := fun x => ov x (b') (by (try simp) <;> omega); clear ov; (repeat (go_big_quiet_step (first | (go_at_call 137; exact callsOver (eqTest_b (decide_eq_true HE.out) _))))); refine wpQuiet_nil ?_; intro w9 hw9; have hb_w9 := below_over hw9; clear hw9 ov0 ov1
          go_wp2
          go_roundw
          case rel => exact ⟨k + 1, by omega, by go_num, by rw [List.take_add_one, List.take_add_one, HQ.out, HX.out, HY.out, HE.out], by (repeat' (first | with_reducible exact Below.refl _ _ | with_reducible assumption | with_reducible refine Below.setCell ?_ ?_ _ | with_reducible refine Below.alloc ?_ ?_ _ | with_reducible refine Below.drew ?_ | with_reducible refine belDrewN ?_ _ | with_reducible refine Below.trans ?_ (Below.mono (by assumption) ?_) | omega | (simp; omega) | (simp; done)))⟩
          case measure => simp [intOf]; omega
        · have HE := Lib.hid he; clear he
          go_wp2_with fail
          refine wp_region_over (by kernel_rfl) (by kernel_rfl) (fun ov => ?_); have ov0 := fun x => ov x (b) (by (try simp) <;> omega); have ov1 := fun x => ov x (b') (by (try simp) <;> omega); clear ov; (repeat (go_big_quiet_step (first | (go_at_call 137; exact callsOver (eqTest_b (decide_eq_false HE.out) _))))); refine wpQuiet_nil ?_; intro w9 hw9; have hb_w9 := below_over hw9; clear hw9 ov0 ov1
          go_wp2
          go_ret
          exact ⟨ret_bool (decide_eq_false (fun h => HE.out (by have h1 := HX.out; have h2 := HY.out; rw [h, h2] at h1; exact (Option.some.inj h1).symm))).symm, by (repeat' (first | with_reducible exact Below.refl _ _ | with_reducible assumption | with_reducible refine Below.setCell ?_ ?_ _ | with_reducible refine Below.alloc ?_ ?_ _ | with_reducible refine Below.drew ?_ | with_reducible refine belDrewN ?_ _ | with_reducible refine Below.trans ?_ (Below.mono (by assumption) ?_) | omega | (simp; omega) | (simp; done)))⟩
      · have HE := Lib.hid (show k = xs.length by omega)
        go_wp2
        go_ret
        exact ⟨ret_bool (decide_eq_true (by have := HQ.out; rw [HE.out, List.take_length, ← HM2.out, ← HM.out, List.take_length] at this; exact this)).symm, by (repeat' (first | with_reducible exact Below.refl _ _ | with_reducible assumption | with_reducible refine Below.setCell ?_ ?_ _ | with_reducible refine Below.alloc ?_ ?_ _ | with_reducible refine Below.drew ?_ | with_reducible refine belDrewN ?_ _ | with_reducible refine Below.trans ?_ (Below.mono (by assumption) ?_) | omega | (simp; omega) | (simp; done)))⟩
  · have HN := Lib.hid (decide_eq_false (fun h : xs = ys => hne (by rw [h])))
    have hb : ((xs.length : Int) == (ys.length : Int)) = false := by simpa using (by omega : (xs.length : Int) ≠ ys.length)
    clear hne
    go_enter Tryz.func130, Tryz.ntmps130
    go_wp2
    go_ret
    exact ⟨ret_bool HN.out.symm, by (repeat' (first | with_reducible exact Below.refl _ _ | with_reducible assumption | with_reducible refine Below.setCell ?_ ?_ _ | with_reducible refine Below.alloc ?_ ?_ _ | with_reducible refine Below.drew ?_ | with_reducible refine belDrewN ?_ _ | with_reducible refine Below.trans ?_ (Below.mono (by assumption) ?_) | omega | (simp; omega) | (simp; done)))⟩
theorem eqTestS_b {xs ys : List Te} {v u : Value} {w : World} {r : Bool} (hs : Tes w v xs) (hu : Tes w u ys) (h : decide (xs = ys) = r) : Calls Tryz.prog 130 #[v, u] w fun e w' => e = .returned (.bool r) ∧ Below w.heap.size w w' := by
  subst h
  exact eqTestS_any xs ys v u w hs hu
set_option maxHeartbeats 2000000 in
theorem markTestS_any (base : Nat) (xs : List Te) (v : Value) (m : Nat) (w : World) (ho : OwnTe base w v xs) (hn : xs.length ≤ 1048576) (hm : m ≤ 8388608) : Calls Tryz.prog 115 #[v, .int .i64 (m : Int)] w fun e w' => e = .returned (.int .i64 ((m + 4 * xs.length : Nat) : Int)) ∧ OwnTe base w' v (Temarks m xs.length) ∧ w.grownBy w' v.ownBlock := by
  rcases OwnSl.form ho with ⟨rfl, rfl⟩ | ⟨g, cap, rfl, hg, hgs, hlc, hcm, -⟩
  · go_enter Tryz.func115, Tryz.ntmps115
    go_wp2_with fail
    go_loopw [1, 5] (fun q i wr => q = .int .i64 (m : Int) ∧ i = .int .i64 0 ∧ wr = w) (fun _ _ _ => 0)
    case atStart => exact ⟨rfl, rfl, rfl⟩
    case round =>
      obtain ⟨rfl, rfl, rfl⟩ := hrel
      go_wp2
      go_ret
      exact ⟨rfl, ho, World.grownBy.refl _ _⟩
  · unfold maxLen at hcm
    go_enter Tryz.func115, Tryz.ntmps115
    go_wp2_with fail
    go_loopw [1, 5] (fun q i wr => ∃ k : Nat, k ≤ xs.length ∧ i = .int .i64 k ∧ q = .int .i64 ((m + 4 * k : Nat) : Int) ∧ OwnTe base wr (.slice (some ⟨g, 0, none⟩) xs.length cap) (Temarks m k ++ xs.drop k) ∧ w.grownBy wr (some g)) (fun _ i _ => xs.length - (intOf i).toNat)
    case atStart => exact ⟨0, by omega, rfl, rfl, by simpa [Temarks] using ho, World.grownBy.refl _ _⟩
    case round =>
      obtain ⟨k, hk, rfl, rfl, hown, hgr⟩ := hrel
      have HO := Lib.hid hown; have HG := Lib.hid hgr; clear hown hgr
      have hgb := HG.out.size
      by_cases hlt : k < xs.length
      · have HL := Lib.hid (show (Temarks m k ++ xs.drop k).length = xs.length by simp [Temarks]; omega)
        obtain ⟨f1, f2, f3, f4, hx⟩ : ∃ f1 f2 f3 f4, xs[k]? = some (⟨f1, f2, f3, f4⟩ : Te) := ⟨_, _, _, _, List.getElem?_eq_getElem hlt⟩
        have HX := Lib.hid hx; clear hx
        obtain ⟨hst, hgr⟩ := OwnSl.store (sz := 4) (enc := Te.enc) (fun _ => rfl) HL.out.symm HO.out (k := k) (by rw [HL.out]; exact hlt) (TemarkAt m k)
        have HST := Lib.hid hst; have HGR := Lib.hid hgr; clear hst hgr
        have hfz : ∀ j, wr.frozen? ⟨g, j, none⟩ = false := OwnSl.frz HO.out
        have hcz := OwnSl.cell (sz := 4) (enc := Te.enc) (fun _ => rfl) HO.out (k := k) (y := (⟨f1, f2, f3, f4⟩ : Te)) (by rw [List.getElem?_append_right (by simp [Temarks])]; simp [Temarks]; exact HX.out)
        have d0 := hcz 0 _ rfl; have d1 := hcz 1 _ rfl; have d2 := hcz 2 _ rfl; have d3 := hcz 3 _ rfl
        simp only [Nat.add_zero] at d0
        clear hcz
        obtain ⟨p, hpp⟩ : ∃ p, accm (m + 4 * k + 3) = p := ⟨_, rfl⟩
        have HPP := Lib.hid hpp
        have hac : (((m : Int) + 4 * (k : Int) + 1 + 1 + 1) % 3 == 0) = p := by have h9 := HPP.out; unfold accm at h9; rw [← h9]; congr 2 <;> omega
        have n0 : ((m + 4 * k + 0 : Nat) : Int) = (m : Int) + 4 * (k : Int) := by omega
        have n1 : ((m + 4 * k + 1 : Nat) : Int) = (m : Int) + 4 * (k : Int) + 1 := by omega
        have n2 : ((m + 4 * k + 2 : Nat) : Int) = (m : Int) + 4 * (k : Int) + 1 + 1 := by omega
        have NN := Lib.hid (And.intro n0 (And.intro n1 n2))
        clear n0 n1 n2
        clear hpp
        go_wp2
        go_roundw
        case rel =>
          refine ⟨k + 1, by omega, by go_num, by go_num, ?_, ?_⟩
          · have e1 : (Temarks m k ++ xs.drop k).set k (TemarkAt m k) = Temarks m (k + 1) ++ xs.drop (k + 1) := by
              have e0 : (xs.drop k).set 0 (TemarkAt m k) = TemarkAt m k :: xs.drop (k + 1) := by rw [List.drop_eq_getElem_cons hlt, List.set_cons_zero]
              rw [List.set_append_right _ _ (by simp [Temarks])]
              simp [Temarks, List.range_succ, e0]
            rw [← e1]
            have e2 := HST.out
            simp only [wSet, TemarkAt, HPP.out, NN.out.1, NN.out.2.1, NN.out.2.2] at e2
            rw [show TemarkAt m k = ⟨(m : Int) + 4 * (k : Int), (m : Int) + 4 * (k : Int) + 1, (m : Int) + 4 * (k : Int) + 1 + 1, p⟩ by unfold TemarkAt; rw [HPP.out, NN.out.1, NN.out.2.1, NN.out.2.2]]
            exact e2
          · have e2 := HGR.out
            simp only [wSet, TemarkAt, HPP.out, NN.out.1, NN.out.2.1, NN.out.2.2] at e2
            refine ⟨?_, ?_, ?_, ?_, ?_⟩
            · exact HG.out.os
            · exact HG.out.tape
            · exact HG.out.output
            · simp; omega
            · intro q hq hne
              have hne' : q ≠ g := fun e => hne (by rw [e])
              simp [Below.heap_setCell, hne']
              exact HG.out.block q hq hne
        case measure => simp [intOf]; omega
      · have HE := Lib.hid (show k = xs.length by omega)
        go_wp2
        go_ret
        refine ⟨ret_int (by rw [HE.out]), ?_, HG.out⟩
        have := HO.out
        rw [HE.out, List.drop_length, List.append_nil] at this
        exact this
def ruN (rs : List Ru) : Nat := rs.length + sumTo (fun r : Ru => r.ts.length) rs rs.length
def rcN (cs : List (List Ru)) : Nat := cs.length + sumTo ruN cs cs.length
set_option maxHeartbeats 1000000 in
theorem szRule_any {lo : Nat} (ts : List Te) (v : Value) (c d : Int) (l : Int) (w : World) (hs : Tss lo w v ts) (h0 : 0 ≤ l) (h1 : l ≤ 1048576) :
    Calls Tryz.prog 111 #[.agg #[v, .int .i64 c, .int .i64 d], .int .i64 l] w fun e w' => e = .returned (.int .i64 (szOf l ts.length)) ∧ Below w.heap.size w w' := by
  obtain ⟨a, cap, rfl, hlc, hcm⟩ := hs.form
  unfold maxLen at hcm
  have hal : Below w.heap.size w (w.alloc (.cells #[.slice a ts.length cap, .int .i64 c, .int .i64 d] 180)) := (Below.refl _ _).alloc (Nat.le_refl _) _
  have hC := Lib.hid (szOf_cases l ts.length)
  obtain ⟨z, hz⟩ : ∃ z, szOf l ts.length = z := ⟨_, rfl⟩
  go_enter Tryz.func111, Tryz.ntmps111
  go_wp2_with fail
  refine (szTestS_any a ts.length cap l (by omega) h0 (by omega) _).mono ?_
  rw [show (if l < (ts.length : Int) then (-1 : Int) else l - (ts.length : Int)) = z from hz]
  rintro e _ ⟨rfl, rfl⟩
  have hC' := hC.out
  rw [hz] at hC'
  have HZ := Lib.hid hz
  clear hC hz
  by_cases hz0 : z < 0
  · have hz1 : z = -1 := by omega
    subst hz1
    go_wp2
    go_ret
    exact ⟨ret_int HZ.out.symm, hal⟩
  · go_wp2
    go_ret
    exact ⟨ret_int HZ.out.symm, hal⟩
set_option maxHeartbeats 1000000 in
theorem szRuleS_any {lo : Nat} (b : List Ru) (v : Value) (l : Int) (w : World) (hs : Rus lo w v b) (h0 : 0 ≤ l) (h1 : l ≤ 1048576) :
    Calls Tryz.prog 82 #[v, .int .i64 l] w fun e w' => e = .returned (.int .i64 (szOf l (ruN b))) ∧ Below w.heap.size w w' := by
  obtain ⟨a, cap, rfl, hlc, hcm⟩ := hs.form
  have hb : ruN b = b.length + sumTo (fun r : Ru => r.ts.length) b b.length := rfl
  unfold maxLen at hcm
  generalize hn : b.length = n at *
  have HN := Lib.hid hn
  clear hn
  by_cases hl : l < n
  · have HE := Lib.hid (show szOf l (ruN b) = -1 by unfold szOf; rw [if_pos (by omega)])
    clear hb
    go_enter Tryz.func82, Tryz.ntmps82
    go_wp2
    go_ret
    exact ⟨ret_int HE.out.symm, Below.refl _ _⟩
  · have HB := Lib.hid hb
    clear hb
    go_enter Tryz.func82, Tryz.ntmps82
    go_wp2_with fail
    go_loopw [1, 5] (fun x i wr => ∃ k : Nat, k ≤ n ∧ i = .int .i64 k ∧ x = .int .i64 (l - n - (sumTo (fun r : Ru => r.ts.length) b k : Nat)) ∧ (n : Int) + (sumTo (fun r : Ru => r.ts.length) b k : Nat) ≤ l ∧ Below w.heap.size w wr) (fun _ i _ => n - (intOf i).toNat)
    case atStart => exact ⟨0, by omega, rfl, by rw [sumTo_zero]; simp, by rw [sumTo_zero]; simp; omega, Below.refl _ _⟩
    case round =>
      obtain ⟨k, hk, rfl, rfl, hle, hbr⟩ := hrel
      have hzr := hbr.size
      by_cases hlt : k < n
      · have i1 : (k : Int) < (n : Int) := by omega
        have i2 : (0 : Int) ≤ (k : Int) := by omega
        obtain ⟨f, hx⟩ : ∃ f, b[k]? = some f := ⟨_, List.getElem?_eq_getElem (by rw [HN.out]; exact hlt)⟩
        obtain ⟨b', o, sv, rfl, hbl, c0, c1, c2, hsv⟩ := (hs.below hbr).at hx
        have HSV := Lib.hid hsv
        have hsu := sumTo_succ (f := fun r : Ru => r.ts.length) hx
        have hle2 := sumTo_le (fun r : Ru => r.ts.length) b (k + 1) (n - (k + 1))
        rw [show k + 1 + (n - (k + 1)) = n by omega] at hle2
        clear hsv hx
        generalize hsk : sumTo (fun r : Ru => r.ts.length) b k = s at *
        have HSU := Lib.hid hsu
        have HL2 := Lib.hid hle2
        clear hsk hsu hle2
        obtain ⟨z, hz⟩ : ∃ z : Int, l - n - (s : Nat) = z := ⟨_, rfl⟩
        rw [hz]
        have hz0 : 0 ≤ z := by omega
        have hz1 : z ≤ 1048576 := by omega
        have hC := szOf_cases z (f.ts.length)
        obtain ⟨y, hy⟩ : ∃ y, szOf z (f.ts.length) = y := ⟨_, rfl⟩
        rw [hy] at hC
        have HC := Lib.hid hC
        have HZ := Lib.hid hz
        clear hz hC
        go_wp2_with fail
        refine (szRule_any f.ts sv f.act f.ch z _ HSV.out hz0 hz1).mono ?_
        rw [hy]
        rintro e w9 ⟨rfl, hb9⟩
        have hb10 : Below w.heap.size w w9 := hbr.trans (hb9.mono hzr)
        clear hy hb9
        by_cases hq : y < 0
        · have HE := Lib.hid (show szOf l (ruN b) = -1 by
            have h1 := HSU.out; have h2 := HL2.out; have h3 := HB.out; have h4 := HZ.out; have h5 := HC.out
            unfold szOf; rw [if_pos (by omega)])
          go_wp2
          go_ret
          exact ⟨ret_int HE.out.symm, hb10⟩
        · go_wp2
          go_roundw
          case rel => exact ⟨k + 1, by omega, by go_num, by rw [HSU.out]; congr 1; have := HZ.out; have := HC.out; push_cast; omega, by rw [HSU.out]; have := HZ.out; have := HC.out; push_cast; omega, hb10⟩
          case measure => simp [intOf]; omega
      · have hkn : k = n := by omega
        have HE := Lib.hid (show szOf l (ruN b) = l - n - (sumTo (fun r : Ru => r.ts.length) b k : Nat) by
          have h3 := HB.out
          rw [← hkn] at h3 ⊢
          rw [← hkn] at hle
          unfold szOf; rw [if_neg (by omega), h3]; push_cast; omega)
        generalize sumTo (fun r : Ru => r.ts.length) b k = s at *
        go_wp2
        go_ret
        exact ⟨ret_int HE.out.symm, hbr⟩
set_option maxHeartbeats 1000000 in
theorem szRuleSS_any {lo : Nat} (b : List (List Ru)) (v : Value) (l : Int) (w : World) (hs : Rss lo w v b) (h0 : 0 ≤ l) (h1 : l ≤ 1048576) :
    Calls Tryz.prog 48 #[v, .int .i64 l] w fun e w' => e = .returned (.int .i64 (szOf l (rcN b))) ∧ Below w.heap.size w w' := by
  obtain ⟨a, cap, rfl, hlc, hcm⟩ := hs.form
  have hb : rcN b = b.length + sumTo ruN b b.length := rfl
  unfold maxLen at hcm
  generalize hn : b.length = n at *
  have HN := Lib.hid hn
  clear hn
  by_cases hl : l < n
  · have HE := Lib.hid (show szOf l (rcN b) = -1 by unfold szOf; rw [if_pos (by omega)])
    clear hb
    go_enter Tryz.func48, Tryz.ntmps48
    go_wp2
    go_ret
    exact ⟨ret_int HE.out.symm, Below.refl _ _⟩
  · have HB := Lib.hid hb
    clear hb
    go_enter Tryz.func48, Tryz.ntmps48
    go_wp2_with fail
    go_loopw [1, 5] (fun x i wr => ∃ k : Nat, k ≤ n ∧ i = .int .i64 k ∧ x = .int .i64 (l - n - (sumTo ruN b k : Nat)) ∧ (n : Int) + (sumTo ruN b k : Nat) ≤ l ∧ Below w.heap.size w wr) (fun _ i _ => n - (intOf i).toNat)
    case atStart => exact ⟨0, by omega, rfl, by rw [sumTo_zero]; simp, by rw [sumTo_zero]; simp; omega, Below.refl _ _⟩
    case round =>
      obtain ⟨k, hk, rfl, rfl, hle, hbr⟩ := hrel
      have hzr := hbr.size
      by_cases hlt : k < n
      · have i1 : (k : Int) < (n : Int) := by omega
        have i2 : (0 : Int) ≤ (k : Int) := by omega
        obtain ⟨f, hx⟩ : ∃ f, b[k]? = some f := ⟨_, List.getElem?_eq_getElem (by rw [HN.out]; exact hlt)⟩
        obtain ⟨b', o, sv, rfl, hbl, c0, hsv⟩ := (hs.below hbr).at hx
        have HSV := Lib.hid hsv
        have hsu := sumTo_succ (f := ruN) hx
        have hle2 := sumTo_le ruN b (k + 1) (n - (k + 1))
        rw [show k + 1 + (n - (k + 1)) = n by omega] at hle2
        clear hsv hx
        generalize hsk : sumTo ruN b k = s at *
        have HSU := Lib.hid hsu
        have HL2 := Lib.hid hle2
        clear hsk hsu hle2
        obtain ⟨z, hz⟩ : ∃ z : Int, l - n - (s : Nat) = z := ⟨_, rfl⟩
        rw [hz]
        have hz0 : 0 ≤ z := by omega
        have hz1 : z ≤ 1048576 := by omega
        have hC := szOf_cases z (ruN f)
        obtain ⟨y, hy⟩ : ∃ y, szOf z (ruN f) = y := ⟨_, rfl⟩
        rw [hy] at hC
        have HC := Lib.hid hC
        have HZ := Lib.hid hz
        clear hz hC
        go_wp2_with fail
        refine (szRuleS_any f sv z _ HSV.out hz0 hz1).mono ?_
        rw [hy]
        rintro e w9 ⟨rfl, hb9⟩
        have hb10 : Below w.heap.size w w9 := hbr.trans (hb9.mono hzr)
        clear hy hb9
        by_cases hq : y < 0
        · have HE := Lib.hid (show szOf l (rcN b) = -1 by
            have h1 := HSU.out; have h2 := HL2.out; have h3 := HB.out; have h4 := HZ.out; have h5 := HC.out
            unfold szOf; rw [if_pos (by omega)])
          go_wp2
          go_ret
          exact ⟨ret_int HE.out.symm, hb10⟩
        · go_wp2
          go_roundw
          case rel => exact ⟨k + 1, by omega, by go_num, by rw [HSU.out]; congr 1; have := HZ.out; have := HC.out; push_cast; omega, by rw [HSU.out]; have := HZ.out; have := HC.out; push_cast; omega, hb10⟩
          case measure => simp [intOf]; omega
      · have hkn : k = n := by omega
        have HE := Lib.hid (show szOf l (rcN b) = l - n - (sumTo ruN b k : Nat) by
          have h3 := HB.out
          rw [← hkn] at h3 ⊢
          rw [← hkn] at hle
          unfold szOf; rw [if_neg (by omega), h3]; push_cast; omega)
        generalize sumTo ruN b k = s at *
        go_wp2
        go_ret
        exact ⟨ret_int HE.out.symm, hbr⟩
set_option maxHeartbeats 1000000 in
theorem szRuleset_any {lo : Nat} (cs : List (List Ru)) (v : Value) (c : Bool) (l : Int) (w : World) (hs : Rss lo w v cs) (h0 : 0 ≤ l) (h1 : l ≤ 1048576) :
    Calls Tryz.prog 18 #[.agg #[v, .bool c], .int .i64 l] w fun e w' => e = .returned (.int .i64 (szOf l (rcN cs))) ∧ Below w.heap.size w w' := by
  obtain ⟨a, cap, rfl, hlc, hcm⟩ := hs.form
  have hal : Below w.heap.size w (w.alloc (.cells #[.slice a cs.length cap, .bool c] 51)) := (Below.refl _ _).alloc (Nat.le_refl _) _
  have hC := Lib.hid (szOf_cases l (rcN cs))
  obtain ⟨z, hz⟩ : ∃ z, szOf l (rcN cs) = z := ⟨_, rfl⟩
  go_enter Tryz.func18, Tryz.ntmps18
  go_wp2_with fail
  refine (szRuleSS_any cs _ l _ (hs.below hal) h0 h1).mono ?_
  rw [hz]
  rintro e w1 ⟨rfl, hb1⟩
  have hw1 : Below w.heap.size w w1 := hal.trans (hb1.mono (by simp))
  have hC' := hC.out
  rw [hz] at hC'
  have HZ := Lib.hid hz
  clear hC hz hb1
  by_cases hz0 : z < 0
  · have hz1 : z = -1 := by omega
    subst hz1
    go_wp2
    go_ret
    exact ⟨ret_int HZ.out.symm, hw1⟩
  · go_wp2
    go_ret
    exact ⟨ret_int HZ.out.symm, hw1⟩
set_option maxHeartbeats 1000000 in
theorem eqRule_b {lo lo' : Nat} {xs ys : List Te} {c d c' d' : Int} {v u : Value} {w : World} {r : Bool} (hs : Tss lo w v xs) (hu : Tss lo' w u ys) (h : decide ((⟨xs, c, d⟩ : Ru) = ⟨ys, c', d'⟩) = r) :
    Calls Tryz.prog 114 #[.agg #[v, .int .i64 c, .int .i64 d], .agg #[u, .int .i64 c', .int .i64 d']] w fun e w' => e = .returned (.bool r) ∧ Below w.heap.size w w' := by
  obtain ⟨a, cap, rfl, hlc, hcm⟩ := hs.form
  obtain ⟨a', cap', rfl, hlc', hcm'⟩ := hu.form
  obtain ⟨q, hq⟩ : ∃ q, decide (xs = ys) = q := ⟨_, rfl⟩
  have hr : r = (q && decide (c = c') && decide (d = d')) := by
    rw [← h, ← hq]
    by_cases h1 : xs = ys <;> by_cases h2 : c = c' <;> by_cases h3 : d = d' <;> simp [h1, h2, h3]
  clear h
  go_enter Tryz.func114, Tryz.ntmps114
  
  go_wp2_with fail; refine (eqTestS_b (hs.z.below (by (repeat' (first | with_reducible exact Below.refl _ _ | with_reducible assumption | with_reducible refine Below.setCell ?_ ?_ _ | with_reducible refine Below.alloc ?_ ?_ _ | with_reducible refine Below.drew ?_ | with_reducible refine belDrewN ?_ _ | with_reducible refine Below.trans ?_ (Below.mono (by assumption) ?_) | omega | (simp; omega) | (simp; done))))) (hu.z.below (by (repeat' (first | with_reducible exact Below.refl _ _ | with_reducible assumption | with_reducible refine Below.setCell ?_ ?_ _ | with_reducible refine Below.alloc ?_ ?_ _ | with_reducible refine Below.drew ?_ | with_reducible refine belDrewN ?_ _ | with_reducible refine Below.trans ?_ (Below.mono (by assumption) ?_) | omega | (simp; omega) | (simp; done))))) hq).mono ?_; rintro e w1 ⟨rfl, hb1⟩; obtain ⟨hc1, hf1⟩ := bcell hb1; have hz1 := hb1.size; (try simp at hz1); (try have hz1_w_0 : w.heap.size < w1.heap.size := (by omega)); (try have hz1_w_1 : w.heap.size + 1 < w1.heap.size := (by omega)); (try have hz1_w_2 : w.heap.size + 2 < w1.heap.size := (by omega)); have k1 := ownCells hb1 w.heap.size (by simp; omega); have k1' := ownCells hb1 (w.heap.size + 1) (by simp)
  have hw1 : Below w.heap.size w w1 := by (repeat' (first | with_reducible exact Below.refl _ _ | with_reducible assumption | with_reducible refine Below.setCell ?_ ?_ _ | with_reducible refine Below.alloc ?_ ?_ _ | with_reducible refine Below.drew ?_ | with_reducible refine belDrewN ?_ _ | with_reducible refine Below.trans ?_ (Below.mono (by assumption) ?_) | omega | (simp; omega) | (simp; done)))
  have HR := Lib.hid hr
  clear hr hq
  cases q
  · go_wp2
    go_ret
    exact ⟨ret_bool (by rw [HR.out]; rfl), hw1⟩
  · by_cases e1 : c = c' <;> by_cases e2 : d = d'
    all_goals
      have E1 := Lib.hid (show r = (decide (c = c') && decide (d = d')) by rw [HR.out]; simp)
      simp only [e1, e2, decide_true, decide_false, Bool.and_true, Bool.and_false, Bool.true_and, Bool.false_and] at E1
      try subst e1
      try subst e2
      go_wp2
      go_ret
      exact ⟨ret_bool (by rw [E1.out]), hw1⟩
set_option maxHeartbeats 2000000 in
theorem eqRuleS_any {lo lo' : Nat} (xs ys : List Ru) (v u : Value) (w : World) (hs : Rus lo w v xs) (hu : Rus lo' w u ys) :
    Calls Tryz.prog 85 #[v, u] w fun e w' => e = .returned (.bool (decide (xs = ys))) ∧ Below w.heap.size w w' := by
  obtain ⟨a, cap, rfl, hlc, hcm⟩ := hs.form
  obtain ⟨a', cap', rfl, hlc', hcm'⟩ := hu.form
  unfold maxLen at hcm hcm'
  by_cases hne : xs.length = ys.length
  · have hm : ys.length = xs.length := hne.symm
    rw [hm] at hu hlc' ⊢
    generalize hn : xs.length = n at *
    have HN := Lib.hid hn
    have HM := Lib.hid hm
    clear hn hm hne
    go_enter Tryz.func85, Tryz.ntmps85
    go_wp2_with fail
    go_loopw [5] (fun i wr => ∃ k : Nat, k ≤ n ∧ i = .int .i64 k ∧ xs.take k = ys.take k ∧ Below w.heap.size w wr) (fun i _ => n - (intOf i).toNat)
    case atStart => exact ⟨0, by omega, rfl, rfl, Below.refl _ _⟩
    case round =>
      obtain ⟨k, hk, rfl, hq, hbr⟩ := hrel
      have HQ := Lib.hid hq; clear hq
      have hs2 := hs.below hbr
      have hu2 := hu.below hbr
      have hzr := hbr.size
      by_cases hlt : k < n
      · obtain ⟨x, hx⟩ : ∃ x, xs[k]? = some x := ⟨_, List.getElem?_eq_getElem (by rw [HN.out]; exact hlt)⟩
        obtain ⟨y, hy⟩ : ∃ y, ys[k]? = some y := ⟨_, List.getElem?_eq_getElem (by rw [HM.out]; exact hlt)⟩
        obtain ⟨b, o, sv, rfl, hbl, c0, c1, c2, hsv⟩ := hs2.at hx
        obtain ⟨b', o', su, rfl, hbl', d0, d1, d2, hsu⟩ := hu2.at hy
        have HX := Lib.hid hx; have HY := Lib.hid hy
        have HSV := Lib.hid hsv; have HSU := Lib.hid hsu
        clear hx hy hsv hsu
        have i1 : (k : Int) < (n : Int) := by omega
        have i2 : (0 : Int) ≤ (k : Int) := by omega
        by_cases he : x = y
        · have HE := Lib.hid he; clear he
          have hd := decide_eq_true HE.out
          go_wp2_with fail
          refine wp_region_over (by kernel_rfl) (by kernel_rfl) (fun ov => ?_); have ov0 := fun x => ov x (b) (by (try simp) <;> omega); have ov1 := fun x => ov x (b') (by (try simp) <;> omega); clear ov; (iterate 9 (iterate 8 (try go_big_quiet_step (first | (go_at_call 114; with_reducible exact callsOver (eqRule_b (HSV.out.below (over_below _ _)) (HSU.out.below (over_below _ _)) hd)))))); refine wpQuiet_nil ?_; intro w9 hw9; have hb_w9 := below_over hw9; clear hw9 ov0 ov1
          have hb10 : Below w.heap.size w w9 := hbr.trans (hb_w9.mono hzr)
          clear hb_w9
          go_wp2
          go_roundw
          case rel => exact ⟨k + 1, by omega, by go_num, take_eq_succ HQ.out HX.out HY.out HE.out, hb10⟩
          case measure => simp [intOf]; omega
        · have HE := Lib.hid (show decide (xs = ys) = false from decide_eq_false (fun h => he (by have h1 := HX.out; have h2 := HY.out; rw [h, h2] at h1; exact (Option.some.inj h1).symm)))
          have hd := decide_eq_false he
          clear he
          go_wp2_with fail
          refine wp_region_over (by kernel_rfl) (by kernel_rfl) (fun ov => ?_); have ov0 := fun x => ov x (b) (by (try simp) <;> omega); have ov1 := fun x => ov x (b') (by (try simp) <;> omega); clear ov; (iterate 9 (iterate 8 (try go_big_quiet_step (first | (go_at_call 114; with_reducible exact callsOver (eqRule_b (HSV.out.below (over_below _ _)) (HSU.out.below (over_below _ _)) hd)))))); refine wpQuiet_nil ?_; intro w9 hw9; have hb_w9 := below_over hw9; clear hw9 ov0 ov1
          have hb10 : Below w.heap.size w w9 := hbr.trans (hb_w9.mono hzr)
          clear hb_w9
          go_wp2
          go_ret
          exact ⟨ret_bool HE.out.symm, hb10⟩
      · have HE := Lib.hid (show decide (xs = ys) = true from decide_eq_true (by
          have hkn : k = n := by omega
          have := HQ.out
          rw [hkn] at this
          rwa [List.take_of_length_le (by rw [HN.out]; exact Nat.le_refl _), List.take_of_length_le (by rw [HM.out]; exact Nat.le_refl _)] at this))
        go_wp2
        go_ret
        exact ⟨ret_bool HE.out.symm, hbr⟩
  · have HN := Lib.hid (decide_eq_false (fun h : xs = ys => hne (by rw [h])))
    have hb : ((xs.length : Int) == (ys.length : Int)) = false := by simpa using (by omega : (xs.length : Int) ≠ ys.length)
    clear hne
    go_enter Tryz.func85, Tryz.ntmps85
    go_wp2
    go_ret
    exact ⟨ret_bool HN.out.symm, by (repeat' (first | with_reducible exact Below.refl _ _ | with_reducible assumption | with_reducible refine Below.setCell ?_ ?_ _ | with_reducible refine Below.alloc ?_ ?_ _ | with_reducible refine Below.drew ?_ | with_reducible refine belDrewN ?_ _ | with_reducible refine Below.trans ?_ (Below.mono (by assumption) ?_) | omega | (simp; omega) | (simp; done)))⟩
theorem eqRuleS_b {lo lo' : Nat} {xs ys : List Ru} {v u : Value} {w : World} {r : Bool} (hs : Rus lo w v xs) (hu : Rus lo' w u ys) (h : decide (xs = ys) = r) :
    Calls Tryz.prog 85 #[v, u] w fun e w' => e = .returned (.bool r) ∧ Below w.heap.size w w' := by
  subst h
  exact eqRuleS_any xs ys v u w hs hu
set_option maxHeartbeats 2000000 in
theorem eqRuleSS_any {lo lo' : Nat} (xs ys : List (List Ru)) (v u : Value) (w : World) (hs : Rss lo w v xs) (hu : Rss lo' w u ys) :
    Calls Tryz.prog 51 #[v, u] w fun e w' => e = .returned (.bool (decide (xs = ys))) ∧ Below w.heap.size w w' := by
  obtain ⟨a, cap, rfl, hlc, hcm⟩ := hs.form
  obtain ⟨a', cap', rfl, hlc', hcm'⟩ := hu.form
  unfold maxLen at hcm hcm'
  by_cases hne : xs.length = ys.length
  · have hm : ys.length = xs.length := hne.symm
    rw [hm] at hu hlc' ⊢
    generalize hn : xs.length = n at *
    have HN := Lib.hid hn
    have HM := Lib.hid hm
    clear hn hm hne
    go_enter Tryz.func51, Tryz.ntmps51
    go_wp2_with fail
    go_loopw [5] (fun i wr => ∃ k : Nat, k ≤ n ∧ i = .int .i64 k ∧ xs.take k = ys.take k ∧ Below w.heap.size w wr) (fun i _ => n - (intOf i).toNat)
    case atStart => exact ⟨0, by omega, rfl, rfl, Below.refl _ _⟩
    case round =>
      obtain ⟨k, hk, rfl, hq, hbr⟩ := hrel
      have HQ := Lib.hid hq; clear hq
      have hs2 := hs.below hbr
      have hu2 := hu.below hbr
      have hzr := hbr.size
      by_cases hlt : k < n
      · obtain ⟨x, hx⟩ : ∃ x, xs[k]? = some x := ⟨_, List.getElem?_eq_getElem (by rw [HN.out]; exact hlt)⟩
        obtain ⟨y, hy⟩ : ∃ y, ys[k]? = some y := ⟨_, List.getElem?_eq_getElem (by rw [HM.out]; exact hlt)⟩
        obtain ⟨b, o, sv, rfl, hbl, c0, hsv⟩ := hs2.at hx
        obtain ⟨b', o', su, rfl, hbl', d0, hsu⟩ := hu2.at hy
        have HX := Lib.hid hx; have HY := Lib.hid hy
        have HSV := Lib.hid hsv; have HSU := Lib.hid hsu
        clear hx hy hsv hsu
        have i1 : (k : Int) < (n : Int) := by omega
        have i2 : (0 : Int) ≤ (k : Int) := by omega
        by_cases he : x = y
        · have HE := Lib.hid he; clear he
          have hd := decide_eq_true HE.out
          go_wp2_with fail
          refine wp_region_over (by kernel_rfl) (by kernel_rfl) (fun ov => ?_); have ov0 := fun x => ov x (b) (by (try simp) <;> omega); have ov1 := fun x => ov x (b') (by (try simp) <;> omega); clear ov; (iterate 9 (iterate 8 (try go_big_quiet_step (first | (go_at_call 85; with_reducible exact callsOver (eqRuleS_b (HSV.out.below (over_below _ _)) (HSU.out.below (over_below _ _)) hd)))))); refine wpQuiet_nil ?_; intro w9 hw9; have hb_w9 := below_over hw9; clear hw9 ov0 ov1
          have hb10 : Below w.heap.size w w9 := hbr.trans (hb_w9.mono hzr)
          clear hb_w9
          go_wp2
          go_roundw
          case rel => exact ⟨k + 1, by omega, by go_num, take_eq_succ HQ.out HX.out HY.out HE.out, hb10⟩
          case measure => simp [intOf]; omega
        · have HE := Lib.hid (show decide (xs = ys) = false from decide_eq_false (fun h => he (by have h1 := HX.out; have h2 := HY.out; rw [h, h2] at h1; exact (Option.some.inj h1).symm)))
          have hd := decide_eq_false he
          clear he
          go_wp2_with fail
          refine wp_region_over (by kernel_rfl) (by kernel_rfl) (fun ov => ?_); have ov0 := fun x => ov x (b) (by (try simp) <;> omega); have ov1 := fun x => ov x (b') (by (try simp) <;> omega); clear ov; (iterate 9 (iterate 8 (try go_big_quiet_step (first | (go_at_call 85; with_reducible exact callsOver (eqRuleS_b (HSV.out.below (over_below _ _)) (HSU.out.below (over_below _ _)) hd)))))); refine wpQuiet_nil ?_; intro w9 hw9; have hb_w9 := below_over hw9; clear hw9 ov0 ov1
          have hb10 : Below w.heap.size w w9 := hbr.trans (hb_w9.mono hzr)
          clear hb_w9
          go_wp2
          go_ret
          exact ⟨ret_bool HE.out.symm, hb10⟩
      · have HE := Lib.hid (show decide (xs = ys) = true from decide_eq_true (by
          have hkn : k = n := by omega
          have := HQ.out
          rw [hkn] at this
          rwa [List.take_of_length_le (by rw [HN.out]; exact Nat.le_refl _), List.take_of_length_le (by rw [HM.out]; exact Nat.le_refl _)] at this))
        go_wp2
        go_ret
        exact ⟨ret_bool HE.out.symm, hbr⟩
  · have HN := Lib.hid (decide_eq_false (fun h : xs = ys => hne (by rw [h])))
    have hb : ((xs.length : Int) == (ys.length : Int)) = false := by simpa using (by omega : (xs.length : Int) ≠ ys.length)
    clear hne
    go_enter Tryz.func51, Tryz.ntmps51
    go_wp2
    go_ret
    exact ⟨ret_bool HN.out.symm, by (repeat' (first | with_reducible exact Below.refl _ _ | with_reducible assumption | with_reducible refine Below.setCell ?_ ?_ _ | with_reducible refine Below.alloc ?_ ?_ _ | with_reducible refine Below.drew ?_ | with_reducible refine belDrewN ?_ _ | with_reducible refine Below.trans ?_ (Below.mono (by assumption) ?_) | omega | (simp; omega) | (simp; done)))⟩
theorem eqRuleSS_b {lo lo' : Nat} {xs ys : List (List Ru)} {v u : Value} {w : World} {r : Bool} (hs : Rss lo w v xs) (hu : Rss lo' w u ys) (h : decide (xs = ys) = r) :
    Calls Tryz.prog 51 #[v, u] w fun e w' => e = .returned (.bool r) ∧ Below w.heap.size w w' := by
  subst h
  exact eqRuleSS_any xs ys v u w hs hu
set_option maxHeartbeats 1000000 in
theorem eqRuleset_b {lo lo' : Nat} {xs ys : List (List Ru)} {c d : Bool} {v u : Value} {w : World} {r : Bool} (hs : Rss lo w v xs) (hu : Rss lo' w u ys) (h : (decide (xs = ys) && decide (c = d)) = r) :
    Calls Tryz.prog 21 #[.agg #[v, .bool c], .agg #[u, .bool d]] w fun e w' => e = .returned (.bool r) ∧ Below w.heap.size w w' := by
  obtain ⟨a, cap, rfl, hlc, hcm⟩ := hs.form
  obtain ⟨a', cap', rfl, hlc', hcm'⟩ := hu.form
  obtain ⟨q, hq⟩ : ∃ q, decide (xs = ys) = q := ⟨_, rfl⟩
  have hr : r = (q && decide (c = d)) := by rw [← h, hq]
  clear h
  go_enter Tryz.func21, Tryz.ntmps21
  
  go_wp2_with fail; refine (eqRuleSS_b (hs.below (by (repeat' (first | with_reducible exact Below.refl _ _ | with_reducible assumption | with_reducible refine Below.setCell ?_ ?_ _ | with_reducible refine Below.alloc ?_ ?_ _ | with_reducible refine Below.drew ?_ | with_reducible refine belDrewN ?_ _ | with_reducible refine Below.trans ?_ (Below.mono (by assumption) ?_) | omega | (simp; omega) | (simp; done))))) (hu.below (by (repeat' (first | with_reducible exact Below.refl _ _ | with_reducible assumption | with_reducible refine Below.setCell ?_ ?_ _ | with_reducible refine Below.alloc ?_ ?_ _ | with_reducible refine Below.drew ?_ | with_reducible refine belDrewN ?_ _ | with_reducible refine Below.trans ?_ (Below.mono (by assumption) ?_) | omega | (simp; omega) | (simp; done))))) hq).mono ?_; rintro e w1 ⟨rfl, hb1⟩; obtain ⟨hc1, hf1⟩ := bcell hb1; have hz1 := hb1.size; (try simp at hz1); (try have hz1_w_0 : w.heap.size < w1.heap.size := (by omega)); (try have hz1_w_1 : w.heap.size + 1 < w1.heap.size := (by omega)); (try have hz1_w_2 : w.heap.size + 2 < w1.heap.size := (by omega)); have k1 := ownCells hb1 w.heap.size (by simp; omega); have k1' := ownCells hb1 (w.heap.size + 1) (by simp)
  have hw1 : Below w.heap.size w w1 := by (repeat' (first | with_reducible exact Below.refl _ _ | with_reducible assumption | with_reducible refine Below.setCell ?_ ?_ _ | with_reducible refine Below.alloc ?_ ?_ _ | with_reducible refine Below.drew ?_ | with_reducible refine belDrewN ?_ _ | with_reducible refine Below.trans ?_ (Below.mono (by assumption) ?_) | omega | (simp; omega) | (simp; done)))
  have HR := Lib.hid hr
  clear hr hq
  cases q
  · go_wp2
    go_ret
    exact ⟨ret_bool (by rw [HR.out]; rfl), hw1⟩
  · cases c <;> cases d
    all_goals
      go_wp2
      go_ret
      exact ⟨ret_bool (by rw [HR.out]; rfl), hw1⟩
def RetRu1 (r : Ru) (w : World) (e : Ending) (w' : World) : Prop := ∃ v, e = .returned (.agg #[v, .int .i64 r.act, .int .i64 r.ch]) ∧ PTe w' w.heap.size w'.heap.size v r.ts ∧ Below w.heap.size w w'
theorem toTestS_p {xs : List Te} {v : Value} {w : World} (hs : Tes w v xs) (hn : xs.length ≤ 1048576) : Calls Tryz.prog 128 #[v] w fun e w' => ∃ v', e = .returned v' ∧ PTe w' w.heap.size w'.heap.size v' xs ∧ Below w.heap.size w w' := by
  refine (toTestS_any xs v w hs hn).mono ?_
  rintro e w' ⟨v', rfl, h1, h2⟩
  exact ⟨v', rfl, ⟨h1, fun x hx => (World.ownsRow.lt h1 x hx).2, h2.size⟩, h2⟩
set_option maxHeartbeats 1000000 in
theorem toRule_any {lo : Nat} (ts : List Te) (c d : Int) (v : Value) (w : World) (hs : Tss lo w v ts) (hn : ts.length ≤ 1048576) :
    Calls Tryz.prog 112 #[.agg #[v, .int .i64 c, .int .i64 d]] w (RetRu1 ⟨ts, c, d⟩ w) := by
  obtain ⟨a, cap, rfl, hlc, hcm⟩ := hs.form
  go_enter Tryz.func112, Tryz.ntmps112
  go_wp2_with fail
  refine (toTestS_p (hs.z.below (by (repeat' (first | with_reducible exact Below.refl _ _ | with_reducible assumption | with_reducible refine Below.setCell ?_ ?_ _ | with_reducible refine Below.alloc ?_ ?_ _ | with_reducible refine Below.drew ?_ | with_reducible refine belDrewN ?_ _ | with_reducible refine Below.trans ?_ (Below.mono (by assumption) ?_) | omega | (simp; omega) | (simp; done))))) hn).mono ?_
  rintro e w1 ⟨v1, rfl, ho1, hb1⟩
  have hz := hb1.size; simp at hz
  have kk := ownCells hb1 (w.heap.size) (by (try simp) <;> omega); have a0 := kk 0; have a1 := kk 1; have a2 := kk 2; clear kk; (try simp [go_sem] at a0); (try simp [go_sem] at a1); (try simp [go_sem] at a2)
  have kk := ownCells hb1 (w.heap.size + 1) (by (try simp) <;> omega); have r0 := kk 0; have r1 := kk 1; have r2 := kk 2; clear kk; (try simp [go_sem] at r0); (try simp [go_sem] at r1); (try simp [go_sem] at r2)
  have kk := ownCells hb1 (w.heap.size + 2) (by (try simp) <;> omega); have q0 := kk 0; have q1 := kk 1; have q2 := kk 2; clear kk; (try simp [go_sem] at q0); (try simp [go_sem] at q1); (try simp [go_sem] at q2)
  have hw1 : Below w.heap.size w w1 := by (repeat' (first | with_reducible exact Below.refl _ _ | with_reducible assumption | with_reducible refine Below.setCell ?_ ?_ _ | with_reducible refine Below.alloc ?_ ?_ _ | with_reducible refine Below.drew ?_ | with_reducible refine belDrewN ?_ _ | with_reducible refine Below.trans ?_ (Below.mono (by assumption) ?_) | omega | (simp; omega) | (simp; done)))
  obtain ⟨hc, hf⟩ := bcell hb1
  have hzw_0 : w.heap.size < w1.heap.size := (by omega); have hzw_1 : w.heap.size + 1 < w1.heap.size := (by omega); have hzw_2 : w.heap.size + 2 < w1.heap.size := (by omega)
  obtain ⟨va, vc, hv1, -, -⟩ := ho1.tss.form
  have HO1 := Lib.hid ho1
  simp only [World.size_alloc] at HO1
  subst hv1
  clear hc hb1 ho1
  go_wp2
  have hK : Kpi (w.heap.size + 3) w1.heap.size w1 ((((((w1.setCell ⟨w.heap.size + 1 + 1, 0, none⟩ (.slice va ts.length vc)).setCell ⟨w.heap.size + 1 + 1, 1, none⟩ (.int .i64 c)).setCell ⟨w.heap.size + 1 + 1, 2, none⟩ (.int .i64 d)).setCell ⟨w.heap.size + 1, 0, none⟩ (.slice va ts.length vc)).setCell ⟨w.heap.size + 1, 1, none⟩ (.int .i64 c)).setCell ⟨w.heap.size + 1, 2, none⟩ (.int .i64 d)) :=
    ⟨by simp [World.setCell], fun k g1 _ _ => (Below.heap_setCell _ _ _ _ (by simp; omega)).trans ((Below.heap_setCell _ _ _ _ (by simp; omega)).trans ((Below.heap_setCell _ _ _ _ (by simp; omega)).trans ((Below.heap_setCell _ _ _ _ (by simp; omega)).trans ((Below.heap_setCell _ _ _ _ (by simp; omega)).trans ((Below.heap_setCell _ _ _ _ (by simp; omega)))))))⟩
  have hF := PTe.mono (PTe.keep HO1.out hK) (show w.heap.size ≤ w.heap.size + 1 + 1 + 1 by omega) hK.size
  refine bodyPost_ret (v := .agg #[.slice va ts.length vc, .int .i64 c, .int .i64 d]) (run_resCell (b := w.heap.size + 1) (o := 0) (cs := [.slice va ts.length vc, .int .i64 c, .int .i64 d]) rfl rfl Tryz.isAgg101 Tryz.sizeOf101 ?_) rfl ⟨_, rfl, hF, by (repeat' (first | with_reducible exact Below.refl _ _ | with_reducible assumption | with_reducible refine Below.setCell ?_ ?_ _ | with_reducible refine Below.alloc ?_ ?_ _ | with_reducible refine Below.drew ?_ | with_reducible refine belDrewN ?_ _ | with_reducible refine Below.trans ?_ (Below.mono (by assumption) ?_) | omega | (simp; omega) | (simp; done)))⟩
  intro j v hj
  have hr : (w1.cell? ⟨w.heap.size + 1, 0, none⟩).isSome = true ∧ (w1.cell? ⟨w.heap.size + 1, 1, none⟩).isSome = true ∧ (w1.cell? ⟨w.heap.size + 1, 2, none⟩).isSome = true := by simp [r0, r1, r2]
  obtain ⟨s0, s1, s2⟩ := hr
  clear r0 r1 r2 q0 q1 q2 a0 a1 a2 hf hK hF
  match j, hj with
  | 0, hj => cases hj; simp [World.cell?_setCell_same', World.cell?_setCell_other, s0]
  | 1, hj => cases hj; simp [World.cell?_setCell_same', World.cell?_setCell_other, s1]
  | 2, hj => cases hj; simp [World.cell?_setCell_same', World.cell?_setCell_other, s2]
  | j + 3, hj => simp at hj
theorem ruN_bound {rs : List Ru} {N : Nat} (h : ruN rs ≤ N) : rs.length ≤ N ∧ ∀ (k : Nat) r, rs[k]? = some r → r.ts.length ≤ N := by
  unfold ruN at h
  exact ⟨by omega, fun k r hx => by have := sumTo_at (f := fun r : Ru => r.ts.length) hx; omega⟩
theorem rcN_bound {cs : List (List Ru)} {N : Nat} (h : rcN cs ≤ N) : cs.length ≤ N ∧ ∀ (k : Nat) rs, cs[k]? = some rs → ruN rs ≤ N := by
  unfold rcN at h
  exact ⟨by omega, fun k rs hx => by have := sumTo_at (f := ruN) hx; omega⟩
def RetRu (rs : List Ru) (w : World) (e : Ending) (w' : World) : Prop := ∃ v, e = .returned v ∧ GRu w' w.heap.size w'.heap.size v rs ∧ Below w.heap.size w w'
def RetRc (cs : List (List Ru)) (w : World) (e : Ending) (w' : World) : Prop := ∃ v, e = .returned v ∧ GRc w' w.heap.size w'.heap.size v cs ∧ Below w.heap.size w w'
theorem GRu.mono {w : World} {lo lo' hi hi' : Nat} {v : Value} {rs : List Ru} (h : GRu w lo hi v rs) (hl : lo' ≤ lo) (hh : hi ≤ hi') : GRu w lo' hi' v rs := OwnG.low (OwnG.hi h hh) hl
theorem GRu.keep {w w' : World} {lo hi : Nat} {v : Value} {rs : List Ru} (h : GRu w lo hi v rs) (hw : Kpi lo hi w w') : GRu w' lo hi v rs := GRu.kind.keep _ _ _ _ _ _ h hw
theorem GRc.mono {w : World} {lo lo' hi hi' : Nat} {v : Value} {rs : List (List Ru)} (h : GRc w lo hi v rs) (hl : lo' ≤ lo) (hh : hi ≤ hi') : GRc w lo' hi' v rs := OwnG.low (OwnG.hi h hh) hl
theorem GRc.keep {w w' : World} {lo hi : Nat} {v : Value} {rs : List (List Ru)} (h : GRc w lo hi v rs) (hw : Kpi lo hi w w') : GRc w' lo hi v rs := GRc.kind.keep _ _ _ _ _ _ h hw
set_option maxHeartbeats 2000000 in
theorem toRuleS_any {lo : Nat} (b : List Ru) (v : Value) (w : World) (hs : Rus lo w v b) (hN : ruN b ≤ 1048576) :
    Calls Tryz.prog 83 #[v] w (RetRu b w) := by
  obtain ⟨a, cap, rfl, hlc, hcm⟩ := hs.form
  unfold maxLen at hcm
  obtain ⟨i0, hi, hz0, hz1, hz2⟩ := info_parts infoRu
  obtain ⟨hn, he⟩ := ruN_bound hN
  have HEE := Lib.hid he
  clear he hN
  go_enter Tryz.func83, Tryz.ntmps83
  go_wp2_with (at_make; refine wpList_make_full _ rfl _ _ 96 rfl w.heap.size 101 i0 _ 3 Tryz.underlying96 hi hz0 hz1 _ _ _ _ b.length rfl rfl rfl rfl ?b1 ?b2 ?b3 ?_)
  case b1 => rw [hz2]; omega
  case b2 => simp only [maxLen]; omega
  case b3 => omega
  intro w1 hown1 hgrow1
  have hb1 : Below w.heap.size w w1 := (Below.refl _ _).grown hgrow1 (Nat.le_refl _) (fun k hk => by cases hk)
  have HO1 := Lib.hid (show OwnSl w.heap.size 101 3 RR.enc w1 (.slice (some ⟨w.heap.size, 0, none⟩) b.length b.length) (List.replicate b.length (⟨.slice none 0 0, 0, 0⟩ : RR)) by unfold OwnSl; rw [List.length_replicate, ← madeFlat (sz := 3) (enc := RR.enc) (fun _ => rfl) (by omega) (.agg #[.slice none 0 0, .int .i64 0, .int .i64 0]) (⟨.slice none 0 0, 0, 0⟩ : RR) rfl]; exact hown1)
  clear hown1 hgrow1
  generalize hnn : b.length = n at *
  have HN := Lib.hid hnn
  clear hnn
  have hzw1 : w.heap.size < w1.heap.size := by
    rcases OwnSl.form HO1.out with ⟨h, _⟩ | ⟨g, cp, h, _, h2, _⟩
    · cases h
    · obtain ⟨h3, _, _⟩ := Value.slice.inj h; cases h3; exact h2
  go_wp2_with fail
  go_loopw [4] (fun i wr => ∃ (k : Nat) (vs : List RR), k ≤ n ∧ i = .int .i64 k ∧ vs.length = k ∧ OwnSl w.heap.size 101 3 RR.enc wr (.slice (some ⟨w.heap.size, 0, none⟩) n n) (vs ++ List.replicate (n - k) (⟨.slice none 0 0, 0, 0⟩ : RR)) ∧ OwnC (PRg wr) (w.heap.size + 1) wr.heap.size vs (b.take k) ∧ Below w.heap.size w wr ∧ w.heap.size < wr.heap.size) (fun i _ => n - (intOf i).toNat)
  case atStart => exact ⟨0, [], by omega, rfl, rfl, by simpa using HO1.out, hzw1, hb1, hzw1⟩
  case round =>
    obtain ⟨k, vs, hk, rfl, hvs, hown, hC, hbr, hzw⟩ := hrel
    have HO := Lib.hid hown
    have HC := Lib.hid hC
    have HVS := Lib.hid hvs
    clear hown hC HO1 hb1 hzw1 hvs
    have hzr := hbr.size
    by_cases hlt : k < n
    · obtain ⟨f, hx⟩ : ∃ f, b[k]? = some f := ⟨_, List.getElem?_eq_getElem (by rw [HN.out]; exact hlt)⟩
      obtain ⟨b', o, sv, rfl, hbl, c0, c1, c2, hsv⟩ := (hs.below hbr).at hx
      have HX := Lib.hid hx
      have i1 : (k : Int) < (n : Int) := by omega
      have i2 : (0 : Int) ≤ (k : Int) := by omega
      have hxl := HEE.out k f hx
      clear hx
      go_wp2_with fail
      refine (toRule_any f.ts f.act f.ch sv _ hsv hxl).mono ?_
      rintro e w2 ⟨v2, rfl, ho2, hb2⟩
      have HO2 := Lib.hid (OwnSl.kept HO.out hb2)
      have hz2' := hb2.size
      have hP2 : PRg w2 wr.heap.size w2.heap.size ⟨v2, f.act, f.ch⟩ f := ⟨ho2, rfl, rfl⟩
      have hC2 : OwnC (PRg w2) (w.heap.size + 1) wr.heap.size vs (b.take k) := OwnC.imp PRg.le HC.out (fun l h x y _ _ g3 => ⟨g3.1.keep (Kpi.of hb2), g3.2⟩)
      have hlen : (vs ++ List.replicate (n - k) (⟨.slice none 0 0, 0, 0⟩ : RR)).length = n := by simp [HVS.out]; omega
      have HL := Lib.hid hlen; clear hlen
      obtain ⟨hst, hgr⟩ := OwnSl.store (sz := 3) (enc := RR.enc) (fun _ => rfl) HL.out.symm HO2.out (k := k) (by rw [HL.out]; exact hlt) ⟨v2, f.act, f.ch⟩
      rw [set_rep vs n k _ ⟨v2, f.act, f.ch⟩ HVS.out hlt] at hst
      have hfz : ∀ j, w2.frozen? ⟨w.heap.size, j, none⟩ = false := OwnSl.frz HO2.out
      have hcz := OwnSl.cell (sz := 3) (enc := RR.enc) (fun _ => rfl) HO2.out (k := k) (y := (⟨.slice none 0 0, 0, 0⟩ : RR)) (by rw [List.getElem?_append_right (by rw [HVS.out]; exact Nat.le_refl _), HVS.out, Nat.sub_self, List.getElem?_replicate, if_pos (by omega)])
      have d0 := hcz 0 _ rfl
      have d1 := hcz 1 _ rfl
      have d2 := hcz 2 _ rfl
      simp only [Nat.add_zero, wSet] at d0 hst hgr
      obtain ⟨W3, hW3⟩ : ∃ W3, ((w2.setCell ⟨w.heap.size, k * 3, none⟩ v2).setCell ⟨w.heap.size, k * 3 + 1, none⟩ (.int .i64 f.act)).setCell ⟨w.heap.size, k * 3 + 2, none⟩ (.int .i64 f.ch) = W3 := ⟨_, rfl⟩
      rw [hW3] at hst hgr
      have hK : Kpi (w.heap.size + 1) wr.heap.size w2 W3 := ⟨hgr.size, fun j g1 _ g3 => hgr.block j g3 (by intro e; cases e; omega)⟩
      have hK' : Kpi wr.heap.size w2.heap.size w2 W3 := ⟨hgr.size, fun j g1 _ g3 => hgr.block j g3 (by intro e; cases e; omega)⟩
      have hC3 : OwnC (PRg W3) (w.heap.size + 1) W3.heap.size (vs ++ [⟨v2, f.act, f.ch⟩]) (b.take (k + 1)) := by
        rw [List.take_add_one, HX.out]
        refine OwnC.snoc (OwnC.imp PRg.le hC2 (fun l h x y g1 g2 g3 => ⟨g3.1.keep (hK.sub g1 g2), g3.2⟩)) (fun l hl => ?_) (Nat.le_trans hz2' hgr.size)
        exact ⟨PTe.mono (PTe.keep hP2.1 hK') hl hgr.size, rfl, rfl⟩
      have hbw : Below w.heap.size w W3 := (hbr.trans (hb2.mono hzr)).grown hgr (by omega) (fun k hk => by cases hk; omega)
      obtain ⟨va, vc, hv2, -, -⟩ := ho2.tss.form
      have hsz3 : w.heap.size < W3.heap.size := Nat.lt_of_lt_of_le (by omega) hgr.size
      have HST := Lib.hid hst
      have HC3 := Lib.hid hC3
      have HBW := Lib.hid hbw
      subst hv2
      clear hcz hst hgr hK hK' hC3 hbw hP2 hC2 ho2 hb2 hsv c0 c1 c2 hs
      go_wp2
      go_roundw
      case rel => exact ⟨k + 1, _, by omega, by go_num, by simp [HVS.out], HST.out, HC3.out, HBW.out, hsz3⟩
      case measure => simp [intOf]; omega
    · have hkn : k = n := by omega
      subst hkn
      have HF := Lib.hid (show GRu wr w.heap.size wr.heap.size (.slice (some ⟨w.heap.size, 0, none⟩) k k) b from by
        have h1 := HO.out
        rw [Nat.sub_self, List.replicate_zero, List.append_nil] at h1
        have h2 := HC.out
        rw [List.take_of_length_le (by rw [HN.out]; exact Nat.le_refl _)] at h2
        exact OwnG.of (mid := w.heap.size + 1) PRg.kind ⟨h1, fun x hx => by cases hx; exact Nat.lt_succ_self _, by omega⟩ h2)
      go_wp2
      go_ret
      exact ⟨_, rfl, HF.out, hbr⟩
set_option maxHeartbeats 2000000 in
theorem toRuleSS_any {lo : Nat} (b : List (List Ru)) (v : Value) (w : World) (hs : Rss lo w v b) (hN : rcN b ≤ 1048576) :
    Calls Tryz.prog 49 #[v] w (RetRc b w) := by
  obtain ⟨a, cap, rfl, hlc, hcm⟩ := hs.form
  unfold maxLen at hcm
  obtain ⟨i0, hi, hz0, hz1, hz2⟩ := info_parts infoRl
  obtain ⟨hn, he⟩ := rcN_bound hN
  have HEE := Lib.hid he
  clear he hN
  go_enter Tryz.func49, Tryz.ntmps49
  go_wp2_with (at_make; refine wpList_make_full _ rfl _ _ 23 rfl w.heap.size 96 i0 _ 1 Tryz.underlying23 hi hz0 hz1 _ _ _ _ b.length rfl rfl rfl rfl ?b1 ?b2 ?b3 ?_)
  case b1 => rw [hz2]; omega
  case b2 => simp only [maxLen]; omega
  case b3 => omega
  intro w1 hown1 hgrow1
  have hb1 : Below w.heap.size w w1 := (Below.refl _ _).grown hgrow1 (Nat.le_refl _) (fun k hk => by cases hk)
  have HO1 := Lib.hid (show OwnSl w.heap.size 96 1 enc1 w1 (.slice (some ⟨w.heap.size, 0, none⟩) b.length b.length) (List.replicate b.length (Value.slice none 0 0)) by unfold OwnSl; rw [List.length_replicate, ← madeFlat (sz := 1) (enc := enc1) (fun _ => rfl) (by omega) (.slice none 0 0) (Value.slice none 0 0) rfl, Nat.mul_one]; exact hown1)
  clear hown1 hgrow1
  generalize hnn : b.length = n at *
  have HN := Lib.hid hnn
  clear hnn
  have hzw1 : w.heap.size < w1.heap.size := by
    rcases OwnSl.form HO1.out with ⟨h, _⟩ | ⟨g, cp, h, _, h2, _⟩
    · cases h
    · obtain ⟨h3, _, _⟩ := Value.slice.inj h; cases h3; exact h2
  go_wp2_with fail
  go_loopw [4] (fun i wr => ∃ (k : Nat) (vs : List Value), k ≤ n ∧ i = .int .i64 k ∧ vs.length = k ∧ OwnSl w.heap.size 96 1 enc1 wr (.slice (some ⟨w.heap.size, 0, none⟩) n n) (vs ++ List.replicate (n - k) (Value.slice none 0 0)) ∧ OwnC (GRu wr) (w.heap.size + 1) wr.heap.size vs (b.take k) ∧ Below w.heap.size w wr ∧ w.heap.size < wr.heap.size) (fun i _ => n - (intOf i).toNat)
  case atStart => exact ⟨0, [], by omega, rfl, rfl, by simpa using HO1.out, hzw1, hb1, hzw1⟩
  case round =>
    obtain ⟨k, vs, hk, rfl, hvs, hown, hC, hbr, hzw⟩ := hrel
    have HO := Lib.hid hown
    have HC := Lib.hid hC
    have HVS := Lib.hid hvs
    clear hown hC HO1 hb1 hzw1 hvs
    have hzr := hbr.size
    by_cases hlt : k < n
    · obtain ⟨xs, hx⟩ : ∃ xs, b[k]? = some xs := ⟨_, List.getElem?_eq_getElem (by rw [HN.out]; exact hlt)⟩
      obtain ⟨b', o, sv, rfl, hbl, c0, hsv⟩ := (hs.below hbr).at hx
      have HX := Lib.hid hx
      have i1 : (k : Int) < (n : Int) := by omega
      have i2 : (0 : Int) ≤ (k : Int) := by omega
      have hxl := HEE.out k xs hx
      clear hx
      go_wp2_with fail
      refine (toRuleS_any xs _ _ hsv hxl).mono ?_
      rintro e w2 ⟨v2, rfl, ho2, hb2⟩
      have HO2 := Lib.hid (OwnSl.kept HO.out hb2)
      have hz2' := hb2.size
      have hP2 : GRu w2 wr.heap.size w2.heap.size v2 xs := ho2
      have hC2 : OwnC (GRu w2) (w.heap.size + 1) wr.heap.size vs (b.take k) := OwnC.imp GRu.le HC.out (fun l h x y _ _ g3 => GRu.keep g3 (Kpi.of hb2))
      have hlen : (vs ++ List.replicate (n - k) (Value.slice none 0 0)).length = n := by simp [HVS.out]; omega
      have HL := Lib.hid hlen; clear hlen
      obtain ⟨hst, hgr⟩ := OwnSl.store (sz := 1) (enc := enc1) (fun _ => rfl) HL.out.symm HO2.out (k := k) (by rw [HL.out]; exact hlt) v2
      rw [set_rep vs n k _ v2 HVS.out hlt] at hst
      have hfz : ∀ j, w2.frozen? ⟨w.heap.size, j, none⟩ = false := OwnSl.frz HO2.out
      have hcz := OwnSl.cell (sz := 1) (enc := enc1) (fun _ => rfl) HO2.out (k := k) (y := Value.slice none 0 0) (by rw [List.getElem?_append_right (by rw [HVS.out]; exact Nat.le_refl _), HVS.out, Nat.sub_self, List.getElem?_replicate, if_pos (by omega)])
      have d0 := hcz 0 _ rfl
      simp only [Nat.add_zero, Nat.mul_one, wSet] at d0 hst hgr
      have hK : Kpi (w.heap.size + 1) wr.heap.size w2 (w2.setCell ⟨w.heap.size, k, none⟩ v2) := ⟨hgr.size, fun j g1 _ g3 => hgr.block j g3 (by intro e; cases e; omega)⟩
      have hK' : Kpi wr.heap.size w2.heap.size w2 (w2.setCell ⟨w.heap.size, k, none⟩ v2) := ⟨hgr.size, fun j g1 _ g3 => hgr.block j g3 (by intro e; cases e; omega)⟩
      have hC3 : OwnC (GRu (w2.setCell ⟨w.heap.size, k, none⟩ v2)) (w.heap.size + 1) (w2.setCell ⟨w.heap.size, k, none⟩ v2).heap.size (vs ++ [v2]) (b.take (k + 1)) := by
        rw [List.take_add_one, HX.out]
        refine OwnC.snoc (OwnC.imp GRu.le hC2 (fun l h x y g1 g2 g3 => GRu.keep g3 (hK.sub g1 g2))) (fun l hl => ?_) (Nat.le_trans hz2' hgr.size)
        exact GRu.mono (GRu.keep hP2 hK') hl hgr.size
      have hbw : Below w.heap.size w (w2.setCell ⟨w.heap.size, k, none⟩ v2) := (hbr.trans (hb2.mono hzr)).grown hgr (by omega) (fun k hk => by cases hk; omega)
      obtain ⟨va, vc, hv2, -, -⟩ := ho2.form
      have HST := Lib.hid hst
      have HC3 := Lib.hid hC3
      have HBW := Lib.hid hbw
      have hsz3 : w.heap.size < (w2.setCell ⟨w.heap.size, k, none⟩ v2).heap.size := Nat.lt_of_lt_of_le (by omega) hgr.size
      subst hv2
      clear hcz hst hgr hK hK' hC3 hbw hP2 hC2 ho2 hb2 hsv c0 hs
      go_wp2
      go_roundw
      case rel => exact ⟨k + 1, _, by omega, by go_num, by simp [HVS.out], HST.out, HC3.out, HBW.out, hsz3⟩
      case measure => simp [intOf]; omega
    · have hkn : k = n := by omega
      subst hkn
      have HF := Lib.hid (show GRc wr w.heap.size wr.heap.size (.slice (some ⟨w.heap.size, 0, none⟩) k k) b from by
        have h1 := HO.out
        rw [Nat.sub_self, List.replicate_zero, List.append_nil] at h1
        have h2 := HC.out
        rw [List.take_of_length_le (by rw [HN.out]; exact Nat.le_refl _)] at h2
        exact OwnG.of (mid := w.heap.size + 1) GRu.kind ⟨h1, fun x hx => by cases hx; exact Nat.lt_succ_self _, by omega⟩ h2)
      go_wp2
      go_ret
      exact ⟨_, rfl, HF.out, hbr⟩
def RetRs (cs : List (List Ru)) (c : Bool) (w : World) (e : Ending) (w' : World) : Prop := ∃ v, e = .returned (.agg #[v, .bool c]) ∧ GRc w' w.heap.size w'.heap.size v cs ∧ Below w.heap.size w w'
set_option maxHeartbeats 1000000 in
theorem toRuleset_any {lo : Nat} (cs : List (List Ru)) (c : Bool) (v : Value) (w : World) (hs : Rss lo w v cs) (hn : rcN cs ≤ 1048576) :
    Calls Tryz.prog 19 #[.agg #[v, .bool c]] w (RetRs cs c w) := by
  obtain ⟨a, cap, rfl, hlc, hcm⟩ := hs.form
  go_enter Tryz.func19, Tryz.ntmps19
  go_wp2_with fail
  refine (toRuleSS_any cs _ _ (hs.below (by (repeat' (first | with_reducible exact Below.refl _ _ | with_reducible assumption | with_reducible refine Below.setCell ?_ ?_ _ | with_reducible refine Below.alloc ?_ ?_ _ | with_reducible refine Below.drew ?_ | with_reducible refine belDrewN ?_ _ | with_reducible refine Below.trans ?_ (Below.mono (by assumption) ?_) | omega | (simp; omega) | (simp; done))))) hn).mono ?_
  rintro e w1 ⟨v1, rfl, ho1, hb1⟩
  have hz := hb1.size; simp at hz
  have kk := ownCells hb1 (w.heap.size) (by (try simp) <;> omega); have a0 := kk 0; have a1 := kk 1; clear kk; (try simp [go_sem] at a0); (try simp [go_sem] at a1)
  have kk := ownCells hb1 (w.heap.size + 1) (by (try simp) <;> omega); have r0 := kk 0; have r1 := kk 1; clear kk; (try simp [go_sem] at r0); (try simp [go_sem] at r1)
  have kk := ownCells hb1 (w.heap.size + 2) (by (try simp) <;> omega); have q0 := kk 0; have q1 := kk 1; clear kk; (try simp [go_sem] at q0); (try simp [go_sem] at q1)
  have hw1 : Below w.heap.size w w1 := by (repeat' (first | with_reducible exact Below.refl _ _ | with_reducible assumption | with_reducible refine Below.setCell ?_ ?_ _ | with_reducible refine Below.alloc ?_ ?_ _ | with_reducible refine Below.drew ?_ | with_reducible refine belDrewN ?_ _ | with_reducible refine Below.trans ?_ (Below.mono (by assumption) ?_) | omega | (simp; omega) | (simp; done)))
  obtain ⟨hc, hf⟩ := bcell hb1
  have hzw_0 : w.heap.size < w1.heap.size := (by omega); have hzw_1 : w.heap.size + 1 < w1.heap.size := (by omega); have hzw_2 : w.heap.size + 2 < w1.heap.size := (by omega)
  obtain ⟨va, vc, hv1, -, -⟩ := ho1.form
  have HO1 := Lib.hid ho1
  simp only [World.size_alloc] at HO1
  subst hv1
  clear hc hb1 ho1
  go_wp2
  have hK : Kpi (w.heap.size + 3) w1.heap.size w1 ((((w1.setCell ⟨w.heap.size + 1 + 1, 0, none⟩ (.slice va cs.length vc)).setCell ⟨w.heap.size + 1 + 1, 1, none⟩ (.bool c)).setCell ⟨w.heap.size + 1, 0, none⟩ (.slice va cs.length vc)).setCell ⟨w.heap.size + 1, 1, none⟩ (.bool c)) :=
    ⟨by simp [World.setCell], fun k g1 _ _ => (Below.heap_setCell _ _ _ _ (by simp; omega)).trans ((Below.heap_setCell _ _ _ _ (by simp; omega)).trans ((Below.heap_setCell _ _ _ _ (by simp; omega)).trans ((Below.heap_setCell _ _ _ _ (by simp; omega)))))⟩
  have hF := GRc.mono (GRc.keep HO1.out hK) (show w.heap.size ≤ w.heap.size + 1 + 1 + 1 by omega) hK.size
  refine bodyPost_ret (v := .agg #[.slice va cs.length vc, .bool c]) (run_resCell (b := w.heap.size + 1) (o := 0) (cs := [.slice va cs.length vc, .bool c]) rfl rfl Tryz.isAgg25 Tryz.sizeOf25 ?_) rfl ⟨_, rfl, hF, by (repeat' (first | with_reducible exact Below.refl _ _ | with_reducible assumption | with_reducible refine Below.setCell ?_ ?_ _ | with_reducible refine Below.alloc ?_ ?_ _ | with_reducible refine Below.drew ?_ | with_reducible refine belDrewN ?_ _ | with_reducible refine Below.trans ?_ (Below.mono (by assumption) ?_) | omega | (simp; omega) | (simp; done)))⟩
  intro j v hj
  have hr : (w1.cell? ⟨w.heap.size + 1, 0, none⟩).isSome = true ∧ (w1.cell? ⟨w.heap.size + 1, 1, none⟩).isSome = true := by simp [r0, r1]
  obtain ⟨s0, s1⟩ := hr
  clear r0 r1 q0 q1 a0 a1 hf hK hF
  match j, hj with
  | 0, hj => cases hj; simp [World.cell?_setCell_same', World.cell?_setCell_other, s0]
  | 1, hj => cases hj; simp [World.cell?_setCell_same', World.cell?_setCell_other, s1]
  | j + 2, hj => simp at hj
def rucnt : List Ru → Nat := gcnt fun r => 4 * r.ts.length + 2
def rumark : Nat → List Ru → List Ru := gmark (fun r => 4 * r.ts.length + 2) fun m r => ⟨Temarks m r.ts.length, ((m + 4 * r.ts.length : Nat) : Int), ((m + 4 * r.ts.length + 1 : Nat) : Int)⟩
theorem rucnt_succ {fs : List Ru} {k : Nat} {f : Ru} (h : fs[k]? = some f) : rucnt (fs.take (k + 1)) = rucnt (fs.take k) + (4 * f.ts.length + 2) := gcnt_succ (cnt := fun r : Ru => 4 * r.ts.length + 2) h
theorem rucnt_at {fs : List Ru} {k : Nat} {f : Ru} (h : fs[k]? = some f) : rucnt (fs.take k) + (4 * f.ts.length + 2) ≤ rucnt fs := gcnt_at (cnt := fun r : Ru => 4 * r.ts.length + 2) h
theorem rumark_step {fs : List Ru} {k m : Nat} {f : Ru} (h : fs[k]? = some f) : (rumark m (fs.take k) ++ fs.drop k).set k ⟨Temarks (m + rucnt (fs.take k)) f.ts.length, ((m + rucnt (fs.take k) + 4 * f.ts.length : Nat) : Int), ((m + rucnt (fs.take k) + 4 * f.ts.length + 1 : Nat) : Int)⟩ = rumark m (fs.take (k + 1)) ++ fs.drop (k + 1) :=
  gmark_step (cnt := fun r : Ru => 4 * r.ts.length + 2) (mk := fun m r => (⟨Temarks m r.ts.length, ((m + 4 * r.ts.length : Nat) : Int), ((m + 4 * r.ts.length + 1 : Nat) : Int)⟩ : Ru)) h
theorem rumark_cur {fs : List Ru} {k m : Nat} {f : Ru} (h : fs[k]? = some f) : (rumark m (fs.take k) ++ fs.drop k)[k]? = some f := gmark_cur h
theorem rucnt_full {fs : List Ru} {n : Nat} (h : fs.length = n) : rucnt (fs.take n) = rucnt fs := by rw [List.take_of_length_le (by omega)]
theorem rumark_full {fs : List Ru} {m n : Nat} (h : fs.length = n) : rumark m (fs.take n) ++ fs.drop n = rumark m fs := by rw [List.take_of_length_le (by omega), List.drop_of_length_le (by omega), List.append_nil]
def rccnt : List (List Ru) → Nat := gcnt rucnt
def rcmark : Nat → List (List Ru) → List (List Ru) := gmark rucnt rumark
theorem rccnt_succ {fs : List (List Ru)} {k : Nat} {f : List Ru} (h : fs[k]? = some f) : rccnt (fs.take (k + 1)) = rccnt (fs.take k) + rucnt f := gcnt_succ (cnt := rucnt) h
theorem rccnt_at {fs : List (List Ru)} {k : Nat} {f : List Ru} (h : fs[k]? = some f) : rccnt (fs.take k) + rucnt f ≤ rccnt fs := gcnt_at (cnt := rucnt) h
theorem rcmark_step {fs : List (List Ru)} {k m : Nat} {f : List Ru} (h : fs[k]? = some f) : (rcmark m (fs.take k) ++ fs.drop k).set k (rumark (m + rccnt (fs.take k)) f) = rcmark m (fs.take (k + 1)) ++ fs.drop (k + 1) := gmark_step (cnt := rucnt) (mk := rumark) h
theorem rcmark_cur {fs : List (List Ru)} {k m : Nat} {f : List Ru} (h : fs[k]? = some f) : (rcmark m (fs.take k) ++ fs.drop k)[k]? = some f := gmark_cur h
theorem rccnt_full {fs : List (List Ru)} {n : Nat} (h : fs.length = n) : rccnt (fs.take n) = rccnt fs := by rw [List.take_of_length_le (by omega)]
theorem rcmark_full {fs : List (List Ru)} {m n : Nat} (h : fs.length = n) : rcmark m (fs.take n) ++ fs.drop n = rcmark m fs := by rw [List.take_of_length_le (by omega), List.drop_of_length_le (by omega), List.append_nil]
set_option maxHeartbeats 2000000 in
theorem markRuleS_any (lo hi : Nat) (fs : List Ru) (v : Value) (m : Nat) (w : World) (ho : GRu w lo hi v fs) (hh : hi ≤ w.heap.size) (hN : m + rucnt fs ≤ 8388608) (he : ∀ (k : Nat) f, fs[k]? = some f → f.ts.length ≤ 1048576) :
    Calls Tryz.prog 86 #[v, .int .i64 (m : Int)] w fun e w' => e = .returned (.int .i64 ((m + rucnt fs : Nat) : Int)) ∧ GRu w' lo hi v (rumark m fs) ∧ Chg lo hi w w' := by
  obtain ⟨a, cap, rfl, hlc, hcm⟩ := ho.form
  unfold maxLen at hcm
  generalize hn : fs.length = n at *
  have HN := Lib.hid hn
  have HE := Lib.hid he
  have HG0 := Lib.hid ho
  clear hn he ho
  go_enter Tryz.func86, Tryz.ntmps86
  go_wp2_with fail
  go_loopw [1, 5] (fun q i wr => ∃ k : Nat, k ≤ n ∧ i = .int .i64 k ∧ q = .int .i64 ((m + rucnt (fs.take k) : Nat) : Int) ∧ Hid (GRu wr lo hi (.slice a n cap) (rumark m (fs.take k) ++ fs.drop k)) ∧ Chg lo hi w wr) (fun _ i _ => n - (intOf i).toNat)
  case atStart => exact ⟨0, by omega, rfl, rfl, Lib.hid HG0.out, Chg.refl _ _ _⟩
  case round =>
    obtain ⟨k, hk, rfl, rfl, HG, hc⟩ := hrel
    have hzr := hc.below.size
    by_cases hlt : k < n
    · have i1 : (k : Int) < (n : Int) := by omega
      have i2 : (0 : Int) ≤ (k : Int) := by omega
      obtain ⟨f, hx⟩ : ∃ f, fs[k]? = some f := ⟨_, List.getElem?_eq_getElem (by rw [HN.out]; exact hlt)⟩
      have HX := Lib.hid hx
      obtain ⟨g, cap', r, l, mm, hv, hl1, hl2, hl3, hp, hcell, hg1, hg2, hg3, hfz, hgo, hre, -⟩ := OwnG.elem (sz := 3) (enc := RR.enc) (fun _ => rfl) PRg.kind HG.out (rumark_cur hx)
      obtain ⟨rfl, -, rfl⟩ := Value.slice.inj hv
      have c0 := hcell 0 _ rfl
      simp only [Nat.add_zero] at c0
      have hcn := rucnt_at hx
      have hcs := rucnt_succ hx
      obtain ⟨mk, hmk⟩ : ∃ mk, m + rucnt (fs.take k) = mk := ⟨_, rfl⟩
      rw [hmk]
      have hmk2 : mk + 4 * f.ts.length ≤ 8388608 := by omega
      have HRE := Lib.hid hre
      have HP := Lib.hid hp
      have HM := Lib.hid (show mk + 4 * f.ts.length + 2 = m + rucnt (fs.take (k + 1)) by omega)
      have HEF := Lib.hid (HE.out k f hx)
      clear hre hp hcell hcn hcs hx hv hfz
      have hfl := HEF.out
      go_wp2_with fail
      refine (markTestS_any l f.ts r.s mk wr HP.out.1.1 hfl (by omega)).mono ?_
      rintro e w2 ⟨rfl, ho2, hgr⟩
      have hc2 : Chg l mm wr w2 := Chg.grown hgr (fun z hz => ⟨(World.ownsRow.lt HP.out.1.1 z hz).1, HP.out.1.2.1 z hz⟩) (by omega)
      have hz2 := hc2.below.size
      have HG2 := Lib.hid (HRE.out w2 ⟨Temarks mk f.ts.length, f.act, f.ch⟩ hc2 ⟨⟨ho2, HP.out.1.2⟩, HP.out.2⟩)
      have hcw : Chg lo hi w w2 := hc.trans (hc2.wide hl1 hl3)
      clear ho2 hc2 hgr
      have hcur : ((rumark m (fs.take k) ++ fs.drop k).set k (⟨Temarks mk f.ts.length, f.act, f.ch⟩ : Ru))[k]? = some ⟨Temarks mk f.ts.length, f.act, f.ch⟩ := by
        rw [List.getElem?_set_self]
        exact (List.getElem?_eq_some_iff.1 (rumark_cur (m := m) HX.out)).1
      obtain ⟨g', cap'', r', l', mm', hv, hl1', hl2', hl3', hp', hcell', -, -, -, hfz, hgo', -, hre'⟩ := OwnG.elem (sz := 3) (enc := RR.enc) (fun _ => rfl) PRg.kind HG2.out hcur
      obtain ⟨he, -, -⟩ := Value.slice.inj hv
      obtain ⟨rfl, -, -⟩ := Addr.mk.inj (Option.some.inj he)
      have c1 := hcell' 1 _ rfl
      have c2 := hcell' 2 _ rfl
      have f1 := hfz (k * 3 + 1)
      have f2 := hfz (k * 3 + 2)
      obtain ⟨A1, hA1⟩ : ∃ A : Int, ((mk + 4 * f.ts.length : Nat) : Int) = A := ⟨_, rfl⟩
      have hA2 : ((mk + 4 * f.ts.length + 1 : Nat) : Int) = A1 + 1 := by omega
      have hA0 : 0 ≤ A1 ∧ A1 ≤ 8388608 := by omega
      have HG3 := Lib.hid (hre' 1 (.int .i64 A1) ⟨r'.s, A1, r'.ch⟩ ⟨Temarks mk f.ts.length, A1, f.ch⟩ (by omega) rfl ⟨PTe.keep hp'.1 (Kpi.setCell w2 hgo'), rfl, hp'.2.2⟩)
      have HC3 := Lib.hid (hcw.trans (Chg.setCell w2 (p := ⟨g, k * 3 + 1, none⟩) (c := .int .i64 A1) hg1 hg2))
      clear hcell' hp' hre' hv he hfz
      obtain ⟨w3, hw3⟩ : ∃ w3, w2.setCell ⟨g, k * 3 + 1, none⟩ (.int .i64 A1) = w3 := ⟨_, rfl⟩
      rw [hw3] at HG3 HC3
      have hcur2 : (((rumark m (fs.take k) ++ fs.drop k).set k (⟨Temarks mk f.ts.length, f.act, f.ch⟩ : Ru)).set k (⟨Temarks mk f.ts.length, A1, f.ch⟩ : Ru))[k]? = some ⟨Temarks mk f.ts.length, A1, f.ch⟩ := by
        rw [List.getElem?_set_self]
        rw [List.length_set]
        exact (List.getElem?_eq_some_iff.1 (rumark_cur (m := m) HX.out)).1
      obtain ⟨g', cap'', r2, l2, mm2, hv, hl1'', hl2'', hl3'', hp', hcell', -, -, -, hfz, hgo'', -, hre'⟩ := OwnG.elem (sz := 3) (enc := RR.enc) (fun _ => rfl) PRg.kind HG3.out hcur2
      obtain ⟨he, -, -⟩ := Value.slice.inj hv
      obtain ⟨rfl, -, -⟩ := Addr.mk.inj (Option.some.inj he)
      have HG4 := Lib.hid (hre' 2 (.int .i64 (A1 + 1)) ⟨r2.s, r2.act, A1 + 1⟩ ⟨Temarks mk f.ts.length, A1, A1 + 1⟩ (by omega) rfl ⟨PTe.keep hp'.1 (Kpi.setCell w3 hgo''), hp'.2.1, rfl⟩)
      have HC4 := Lib.hid (HC3.out.trans (Chg.setCell w3 (p := ⟨g, k * 3 + 2, none⟩) (c := .int .i64 (A1 + 1)) hg1 hg2))
      rw [← hw3] at HG4 HC4
      have HAA := Lib.hid (And.intro hA1 hA2)
      clear hcell' hp' hre' hv he hfz HG3 HC3 hcur hcur2 hw3 hA2
      rw [hA1]
      clear hA1
      go_wp2
      go_roundw
      case rel =>
        refine ⟨k + 1, by omega, by go_num, by have := HM.out; have h9 := HAA.out.1; exact congrArg (Value.int .i64) (by omega), Lib.hid ?_, HC4.out⟩
        have h := HG4.out
        have hst := rumark_step (m := m) HX.out
        rw [hmk, HAA.out.1, HAA.out.2] at hst
        rw [List.set_set, List.set_set, hst] at h
        exact h
      case measure => simp [intOf]; omega
    · have hkn : k = n := by omega
      subst hkn
      have HR := Lib.hid HG.out
      go_wp2
      go_ret
      refine ⟨ret_int (by rw [rucnt_full HN.out]), ?_, hc⟩
      have := HR.out
      rwa [rumark_full HN.out] at this
set_option maxHeartbeats 2000000 in
theorem markRuleSS_any (lo hi : Nat) (b : List (List Ru)) (v : Value) (m : Nat) (w : World) (ho : GRc w lo hi v b) (hh : hi ≤ w.heap.size) (hN : m + rccnt b ≤ 8388608) (he : ∀ (k : Nat) xs, b[k]? = some xs → ∀ (j : Nat) f, xs[j]? = some f → f.ts.length ≤ 1048576) :
    Calls Tryz.prog 52 #[v, .int .i64 (m : Int)] w fun e w' => e = .returned (.int .i64 ((m + rccnt b : Nat) : Int)) ∧ GRc w' lo hi v (rcmark m b) ∧ Chg lo hi w w' := by
  obtain ⟨a, cap, rfl, hlc, hcm⟩ := ho.form
  unfold maxLen at hcm
  generalize hn : b.length = n at *
  have HN := Lib.hid hn
  have HE := Lib.hid he
  have HG0 := Lib.hid ho
  clear hn he ho
  go_enter Tryz.func52, Tryz.ntmps52
  go_wp2_with fail
  go_loopw [1, 5] (fun q i wr => ∃ k : Nat, k ≤ n ∧ i = .int .i64 k ∧ q = .int .i64 ((m + rccnt (b.take k) : Nat) : Int) ∧ Hid (GRc wr lo hi (.slice a n cap) (rcmark m (b.take k) ++ b.drop k)) ∧ Chg lo hi w wr) (fun _ i _ => n - (intOf i).toNat)
  case atStart => exact ⟨0, by omega, rfl, rfl, Lib.hid HG0.out, Chg.refl _ _ _⟩
  case round =>
    obtain ⟨k, hk, rfl, rfl, HG, hc⟩ := hrel
    have hzr := hc.below.size
    by_cases hlt : k < n
    · have i1 : (k : Int) < (n : Int) := by omega
      have i2 : (0 : Int) ≤ (k : Int) := by omega
      obtain ⟨xs, hx⟩ : ∃ xs, b[k]? = some xs := ⟨_, List.getElem?_eq_getElem (by rw [HN.out]; exact hlt)⟩
      have HX := Lib.hid hx
      obtain ⟨g, cap', vk, l, mm, hv, hl1, hl2, hl3, hp, hcell, hg1, hg2, hg3, hfz, hgo, hre, -⟩ := OwnG.elem (sz := 1) (enc := enc1) (fun _ => rfl) GRu.kind HG.out (rcmark_cur hx)
      obtain ⟨rfl, -, rfl⟩ := Value.slice.inj hv
      have c0 := hcell 0 _ rfl
      simp only [Nat.mul_one, Nat.add_zero] at c0
      have hcn := rccnt_at hx
      have hcs := rccnt_succ hx
      obtain ⟨mk, hmk⟩ : ∃ mk, m + rccnt (b.take k) = mk := ⟨_, rfl⟩
      rw [hmk]
      have hxl := HE.out k xs hx
      have hmk2 : mk + rucnt xs ≤ 8388608 := by omega
      have HRE := Lib.hid hre
      have HP := Lib.hid hp
      have HM := Lib.hid (show mk + rucnt xs = m + rccnt (b.take (k + 1)) by omega)
      clear hre hp hcell hcn hcs hx hv
      go_wp2_with fail
      refine (markRuleS_any l mm xs vk mk wr HP.out (by omega) hmk2 hxl).mono ?_
      rintro e w2 ⟨rfl, ho2, hc2⟩
      have HG2 := Lib.hid (HRE.out w2 (rumark mk xs) hc2 ho2)
      have hcw : Chg lo hi w w2 := hc.trans (hc2.wide hl1 hl3)
      clear ho2 hc2
      go_wp2
      go_roundw
      case rel =>
        refine ⟨k + 1, by omega, by go_num, by have := HM.out; exact congrArg (Value.int .i64) (by omega), Lib.hid ?_, hcw⟩
        have h := HG2.out
        rw [← hmk, rcmark_step HX.out] at h
        exact h
      case measure => simp [intOf]; omega
    · have hkn : k = n := by omega
      subst hkn
      have HR := Lib.hid HG.out
      go_wp2
      go_ret
      refine ⟨ret_int (by rw [rccnt_full HN.out]), ?_, hc⟩
      have := HR.out
      rwa [rcmark_full HN.out] at this
set_option maxHeartbeats 1000000 in
theorem markRuleset_any (lo hi : Nat) (cs : List (List Ru)) (c : Bool) (v : Value) (m : Nat) (w : World) (ho : GRc w lo hi v cs) (hh : hi ≤ w.heap.size) (hN : m + rccnt cs ≤ 8388608) (he : ∀ (k : Nat) xs, cs[k]? = some xs → ∀ (j : Nat) f, xs[j]? = some f → f.ts.length ≤ 1048576) :
    Calls Tryz.prog 22 #[.agg #[v, .bool c], .int .i64 (m : Int)] w fun e w' => e = .returned (.int .i64 ((m + rccnt cs : Nat) : Int)) ∧ GRc w' lo hi v (rcmark m cs) ∧ Chg lo hi w w' := by
  obtain ⟨a, cap, rfl, hlc, hcm⟩ := ho.form
  have hal : Below w.heap.size w (w.alloc (.cells #[.slice a cs.length cap, .bool c] 25)) := (Below.refl _ _).alloc (Nat.le_refl _) _
  go_enter Tryz.func22, Tryz.ntmps22
  go_wp2_with fail
  refine (markRuleSS_any lo hi cs _ m _ (GRc.keep ho (Kpi.of hal)) (by simp; omega) hN he).mono ?_
  rintro e w1 ⟨rfl, ho1, hc1⟩
  have HO := Lib.hid ho1
  have HC := Lib.hid ((Chg.of lo hal (Nat.le_trans (GRc.kind.le _ _ _ _ _ ho) hh) hi).trans hc1)
  clear ho1 hc1
  go_wp2
  go_ret
  exact ⟨rfl, HO.out, HC.out⟩
end Go.Proofs.YtfcbbahlhjdefaaGreatDoor
