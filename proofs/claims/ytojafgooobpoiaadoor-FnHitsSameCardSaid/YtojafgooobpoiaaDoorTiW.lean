/- The graph of tied rules: the program's walk. -/
import Derived.Test.YtojafgooobpoiaaDoorDxBT
import Derived.Test.YtojafgooobpoiaaDoorFsW
import Derived.Test.YtojafgooobpoiaaDoorFnX
import Derived.Deep.RegionLaw
namespace Go.Proofs.YtojafgooobpoiaaDoor
open Go.RowKit
abbrev encB (b : Bool) : List Value := [.bool b]
theorem infoBo : (Tryd.prog.info? 4).map (fun i => (i.zero, i.size, i.bytes)) = some (some (.bool false), 1, 1) := by kernel_rfl
theorem infoSlB : (Tryd.prog.info? 100).map (fun i => (i.zero, i.size, i.bytes)) = some (some (.slice none 0 0), 1, 24) := by kernel_rfl
def PBo (w : World) (lo hi : Nat) (v : Value) (xs : List Bool) : Prop := OwnI 4 1 encB w lo hi v xs
theorem PBo.kind : Kind PBo := ⟨fun _ l h v xs hp => hp.2.2, fun _ _ _ _ _ _ h hw => OwnI.keep h hw⟩
/-- A list of the call's own whose elements own blocks too, by its cells' values. -/
def OwnV {α β : Type} (e sz : Nat) (enc : α → List Value) (P : World → Nat → Nat → α → β → Prop) (w : World) (lo hi : Nat) (v : Value) (vs : List α) (ys : List β) : Prop :=
  OwnSl lo e sz enc w v vs ∧ (∀ x, v.ownBlock = some x → x < hi) ∧ lo ≤ hi ∧ OwnD (fun l h x y => P w l h x y ∧ Off v.ownBlock l h) lo hi vs ys
section
variable {α β : Type} {e sz : Nat} {enc : α → List Value} {P : World → Nat → Nat → α → β → Prop}
theorem OwnV.keep (hk : Kind P) {w w' : World} {lo hi : Nat} {v : Value} {vs : List α} {ys : List β} (h : OwnV e sz enc P w lo hi v vs ys) (hw : Kpi lo hi w w') : OwnV e sz enc P w' lo hi v vs ys :=
  let ⟨h1, h2, h3, h4⟩ := h
  ⟨h1.keepB (fun g g1 g2 g3 => hw.block g g2 (h2 g g1) g3), h2, h3, h4.imp (hk.leO w _) (fun _ _ _ _ g1 g2 g3 => ⟨hk.keep _ _ _ _ _ _ g3.1 (hw.sub g1 g2), g3.2⟩)⟩
theorem OwnV.elem (henc : ∀ x, (enc x).length = sz) (hk : Kind P) {w : World} {lo hi g n cap : Nat} {vs : List α} {ys : List β} (h : OwnV e sz enc P w lo hi (.slice (some ⟨g, 0, none⟩) n cap) vs ys) {k : Nat} {y : β} (hy : ys[k]? = some y) :
    ∃ (x : α) (l m : Nat), vs[k]? = some x ∧ lo ≤ l ∧ l ≤ m ∧ m ≤ hi ∧ P w l m x y ∧ (∀ (j : Nat) c, (enc x)[j]? = some c → w.cell? ⟨g, k * sz + j, none⟩ = some c) ∧
      (∀ w' y', Chg l m w w' → P w' l m x y' → OwnV e sz enc P w' lo hi (.slice (some ⟨g, 0, none⟩) n cap) vs (ys.set k y')) := by
  obtain ⟨h1, h2, h3, h4⟩ := h
  have hlen := h4.len
  obtain ⟨x, hx⟩ : ∃ x, vs[k]? = some x := ⟨_, List.getElem?_eq_getElem (by rw [hlen]; exact (List.getElem?_eq_some_iff.1 hy).1)⟩
  obtain ⟨l, m, k1, k2, k3, ⟨kP, kO⟩, kR⟩ := OwnD.step (hk.leO w _) k h4 hx hy
  have hoff := kO g rfl
  refine ⟨x, l, m, hx, k1, k2, k3, kP, OwnSl.cell henc h1 hx, fun w' y' hc hp => ⟨h1.keepB (fun z hz _ hzs => ?_), h2, h3, ?_⟩⟩
  · cases hz
    rcases hoff with ho | ho
    · exact hc.below.block g ho
    · exact hc.high g ho hzs
  · have := kR (fun l' h' a b => P w' l' h' a b ∧ Off (Value.slice (some ⟨g, 0, none⟩) n cap).ownBlock l' h') x y' ⟨hp, kO⟩ (fun l' h' a b hd q => ⟨hk.keep _ _ _ _ _ _ q.1 (hc.kpi hd), q.2⟩)
    rwa [set_same hx] at this
end
theorem OwnD.take {α β : Type} {P : Nat → Nat → α → β → Prop} (hP : ∀ l h x y, P l h x y → l ≤ h) : ∀ {lo hi : Nat} {la : List α} {lb : List β} (k : Nat), OwnD P lo hi la lb → OwnD P lo hi (la.take k) (lb.take k)
  | _, _, [], [], k, h => by simpa using h
  | _, _, [], _ :: _, _, h => h.elim
  | _, _, _ :: _, [], _, h => h.elim
  | lo, hi, _ :: _, _ :: _, 0, h => by rw [List.take_zero, List.take_zero]; exact OwnD.le hP h
  | _, _, _ :: _, _ :: _, k + 1, ⟨l, m, h0, h1, h2⟩ => ⟨l, m, h0, h1, OwnD.take hP k h2⟩
theorem OwnD.nils {α β : Type} {P : Nat → Nat → α → β → Prop} {a : α} {b : β} {hi : Nat} (hp : P hi hi a b) {lo : Nat} {la : List α} {lb : List β} (h : OwnD P lo hi la lb) : ∀ k, OwnD P lo hi (la ++ List.replicate k a) (lb ++ List.replicate k b)
  | 0 => by simpa using h
  | k + 1 => by
    rw [List.replicate_succ', List.replicate_succ', ← List.append_assoc, ← List.append_assoc]
    exact OwnD.snoc (OwnD.nils hp h k) (Nat.le_refl _) hp
/-- The state behind k rows. -/
def tieSt (fs : List Ft) (n : Nat) : Nat → List (List Bool)
  | 0 => List.replicate n []
  | k + 1 => tieAll fs n k k
theorem tieSt_row {fs : List Ft} {n : Nat} : ∀ {k : Nat}, k < n → (tieSt fs n k).take k ++ [List.replicate n false] ++ List.replicate (n - (k + 1)) [] = tieAll fs n k 0
  | 0, h => by
    refine ext_get (by simp [tieAll]; omega) (fun r hr => ?_)
    have hr2 : r < n := by simp at hr; omega
    rw [List.take_zero, List.nil_append]
    by_cases e : r = 0
    · subst e
      rw [tieAll_get hr2 (Nat.le_refl _), tieRow_zero]
      rfl
    · rw [tieAll_nil hr2 (by omega), List.getElem?_append_right (by simp; omega), List.getElem?_replicate, if_pos (by simp; omega)]
  | k + 1, h => by
    refine ext_get (by simp [tieSt, tieAll]; omega) (fun r hr => ?_)
    have hl : ((tieSt fs n (k + 1)).take (k + 1)).length = k + 1 := by simp [tieSt, tieAll]; omega
    have hr2 : r < n := by simp [hl] at hr; omega
    by_cases h1 : r < k + 1
    · rw [List.getElem?_append_left (by simp [hl]; omega), List.getElem?_append_left (by omega), List.getElem?_take, if_pos h1]
      show (tieAll fs n k k)[r]? = _
      rw [tieAll_get hr2 (by omega), tieAll_get hr2 (by omega), tieRow_next fs n k r (by omega)]
    · by_cases h2 : r = k + 1
      · subst h2
        rw [List.getElem?_append_left (by simp [hl]), List.getElem?_append_right (by omega), hl, Nat.sub_self, tieAll_get hr2 (Nat.le_refl _), tieRow_zero]
        rfl
      · rw [List.getElem?_append_right (by simp [hl]; omega), List.getElem?_replicate, if_pos (by simp [hl]; omega), tieAll_nil hr2 (by omega)]
theorem ownAt {g n c x : Nat} (h : (Value.slice (some ⟨g, 0, none⟩) n c).ownBlock = some x) : x = g := by cases h; rfl
theorem OwnV.up {α β : Type} {e sz : Nat} {enc : α → List Value} {P : World → Nat → Nat → α → β → Prop} {w : World} {lo hi hi' : Nat} {v : Value} {vs : List α} {ys : List β} (h : OwnV e sz enc P w lo hi v vs ys) (hh : hi ≤ hi') : OwnV e sz enc P w lo hi' v vs ys :=
  let ⟨h1, h2, h3, h4⟩ := h
  ⟨h1, fun x hx => Nat.lt_of_lt_of_le (h2 x hx) hh, Nat.le_trans h3 hh, h4.hi hh⟩
theorem PBo.nil (w : World) (l h : Nat) (hl : l ≤ h) : PBo w l h (.slice none 0 0) [] := ⟨OwnSl.nil _ _ _ _ _, (fun x hx => by cases hx), hl⟩
/-- A row's cell stored. -/
theorem PBo.store {w : World} {l m : Nat} {x : Value} {xs : List Bool} {c : Nat} (h : PBo w l m x xs) (hc : c < xs.length) (hm : m ≤ w.heap.size) (r : Bool) :
    ∃ g cap, x = .slice (some ⟨g, 0, none⟩) xs.length cap ∧ g < w.heap.size ∧ l ≤ g ∧ g < m ∧ (w.cell? ⟨g, c, none⟩).isSome = true ∧ w.frozen? ⟨g, c, none⟩ = false ∧ PBo (w.setCell ⟨g, c, none⟩ (.bool r)) l m x (xs.set c r) ∧ Chg l m w (w.setCell ⟨g, c, none⟩ (.bool r)) := by
  obtain ⟨h1, h2, h3⟩ := h
  rcases OwnSl.form h1 with ⟨_, h0⟩ | ⟨g, cap, rfl, hg1, hg2, hg3, hg4, hg5⟩
  · rw [h0] at hc; simp at hc
  · obtain ⟨y, hy⟩ : ∃ y, xs[c]? = some y := ⟨_, List.getElem?_eq_getElem hc⟩
    have hcz := OwnSl.cell (sz := 1) (enc := encB) (fun _ => rfl) h1 hy 0 _ rfl
    obtain ⟨hst, hgr⟩ := OwnSl.store (sz := 1) (enc := encB) (fun _ => rfl) rfl h1 hc r
    simp only [Nat.add_zero, Nat.mul_one, wSet] at hcz hst hgr
    exact ⟨g, cap, rfl, hg2, hg1, h2 g rfl, by rw [hcz]; rfl, hg5 c, ⟨hst, h2, h3⟩, Chg.setCell w hg1 (h2 g rfl)⟩
theorem PBo.read {w : World} {l m : Nat} {x : Value} {xs : List Bool} {c : Nat} {b : Bool} (h : PBo w l m x xs) (hb : xs[c]? = some b) : ∃ g cap, x = .slice (some ⟨g, 0, none⟩) xs.length cap ∧ g < w.heap.size ∧ w.cell? ⟨g, c, none⟩ = some (.bool b) := by
  obtain ⟨h1, h2, h3⟩ := h
  rcases OwnSl.form h1 with ⟨_, h0⟩ | ⟨g, cap, rfl, hg1, hg2, hg3, hg4, hg5⟩
  · rw [h0] at hb; simp at hb
  · have hcz := OwnSl.cell (sz := 1) (enc := encB) (fun _ => rfl) h1 hb 0 _ rfl
    simp only [Nat.add_zero, Nat.mul_one] at hcz
    exact ⟨g, cap, rfl, hg2, hcz⟩
theorem PBo.at {w : World} {l m : Nat} {x : Value} {xs : List Bool} {c : Nat} {b : Bool} (h : PBo w l m x xs) (hb : xs[c]? = some b) :
    ∃ g cap, x = .slice (some ⟨g, 0, none⟩) xs.length cap ∧ g < w.heap.size ∧ l ≤ g ∧ g < m ∧ w.cell? ⟨g, c, none⟩ = some (.bool b) ∧ w.frozen? ⟨g, c, none⟩ = false ∧ ∀ r, PBo (w.setCell ⟨g, c, none⟩ (.bool r)) l m x (xs.set c r) ∧ Chg l m w (w.setCell ⟨g, c, none⟩ (.bool r)) := by
  have hc := (List.getElem?_eq_some_iff.1 hb).1
  obtain ⟨h1, h2, h3⟩ := h
  rcases OwnSl.form h1 with ⟨_, h0⟩ | ⟨g, cap, rfl, hg1, hg2, hg3, hg4, hg5⟩
  · rw [h0] at hb; simp at hb
  · have hcz := OwnSl.cell (sz := 1) (enc := encB) (fun _ => rfl) h1 hb 0 _ rfl
    simp only [Nat.add_zero, Nat.mul_one] at hcz
    refine ⟨g, cap, rfl, hg2, hg1, h2 g rfl, hcz, hg5 c, fun r => ?_⟩
    obtain ⟨hst, hgr⟩ := OwnSl.store (sz := 1) (enc := encB) (fun _ => rfl) rfl h1 hc r
    simp only [Nat.add_zero, Nat.mul_one, wSet] at hst hgr
    exact ⟨⟨hst, h2, h3⟩, Chg.setCell w hg1 (h2 g rfl)⟩
abbrev TiV (w : World) (lo hi G n : Nat) (vs : List Value) (ys : List (List Bool)) : Prop := OwnV 100 1 enc1 PBo w lo hi (.slice (some ⟨G, 0, none⟩) n n) vs ys
/-- A cell of a row is stored. -/
theorem TiV.store {w : World} {lo hi G n r c : Nat} {vs : List Value} {ys : List (List Bool)} {x : Value} {row : List Bool} {b : Bool} (h : TiV w lo hi G n vs ys) (hx : vs[r]? = some x) (hr : ys[r]? = some row) (hb : row[c]? = some b) :
    ∃ g cap, x = .slice (some ⟨g, 0, none⟩) row.length cap ∧ g < w.heap.size ∧ lo ≤ g ∧ w.cell? ⟨G, r, none⟩ = some x ∧ w.cell? ⟨g, c, none⟩ = some (.bool b) ∧ w.frozen? ⟨g, c, none⟩ = false ∧
      ∀ q, TiV (w.setCell ⟨g, c, none⟩ (.bool q)) lo hi G n vs (ys.set r (row.set c q)) := by
  obtain ⟨x', l, m, hx', h1, h2, h3, hp, hcell, hre⟩ := OwnV.elem (sz := 1) (enc := enc1) (fun _ => rfl) PBo.kind h hr
  rw [hx] at hx'
  cases hx'
  have hc0 := hcell 0 _ rfl
  simp only [Nat.add_zero, Nat.mul_one] at hc0
  obtain ⟨g, cap, rfl, hg1, hg2, hg3, hg4, hg5, hg6⟩ := PBo.at hp hb
  exact ⟨g, cap, rfl, hg1, by omega, hc0, hg4, hg5, fun q => hre _ _ (hg6 q).2 (hg6 q).1⟩
theorem OwnV.lt {α β : Type} {e sz : Nat} {enc : α → List Value} {P : World → Nat → Nat → α → β → Prop} {w : World} {lo hi G n c : Nat} {vs : List α} {ys : List β} (h : OwnV e sz enc P w lo hi (.slice (some ⟨G, 0, none⟩) n c) vs ys) : G < hi ∧ lo ≤ G ∧ G < w.heap.size :=
  ⟨h.2.1 G rfl, (World.ownsRow.lt h.1 G rfl).1, (World.ownsRow.lt h.1 G rfl).2⟩
set_option maxHeartbeats 8000000 in
set_option maxRecDepth 100000 in
theorem tiesOf_any {lo : Nat} (fs : List Ft) (v : Value) (w : World) (hs : Ifs lo w v fs) (hv : ∀ (k : Nat) f, fs[k]? = some f → bvalid f.box = true) (hl : fs.length ≤ 1000) :
    Calls Tryd.prog 66 #[v] w fun e w' => ∃ vs, e = .returned (.slice (some ⟨w.heap.size, 0, none⟩) fs.length fs.length) ∧ TiV w' w.heap.size w'.heap.size w.heap.size fs.length vs (tieSt fs fs.length fs.length) ∧ Below w.heap.size w w' := by
  obtain ⟨a, cap, rfl, hlc, hcm⟩ := hs.form
  unfold maxLen at hcm
  obtain ⟨n, hn⟩ : ∃ n, fs.length = n := ⟨_, rfl⟩
  rw [hn] at hl hlc hs ⊢
  have HN := Lib.hid hn
  have HS := Lib.hid hs
  have HVV := Lib.hid hv
  obtain ⟨i0, hi, hz0, hz1, hz2⟩ := info_parts infoSlB
  obtain ⟨j0, hj, hj0, hj1, hj2⟩ := info_parts infoBo
  clear hn hs hv
  go_enter Tryd.func66, Tryd.ntmps66
  go_wp2_with (at_make; refine wpList_make_full _ rfl _ _ 97 rfl w.heap.size 100 i0 _ 1 Tryd.underlying97 hi hz0 hz1 _ _ _ _ n rfl rfl rfl rfl ?b1 ?b2 ?b3 ?_)
  case b1 => rw [hz2]; omega
  case b2 => simp only [maxLen]; omega
  case b3 => omega
  intro w1 hown1 hgrow1
  have hb1 : Below w.heap.size w w1 := (Below.refl _ _).grown hgrow1 (Nat.le_refl _) (fun k hk => by cases hk)
  have hO1 : OwnSl w.heap.size 100 1 enc1 w1 (.slice (some ⟨w.heap.size, 0, none⟩) n n) (List.replicate n (Value.slice none 0 0)) := by
    unfold OwnSl
    rw [List.length_replicate, ← madeFlat (sz := 1) (enc := enc1) (fun _ => rfl) (by omega) (.slice none 0 0) (Value.slice none 0 0) rfl, Nat.mul_one]
    exact hown1
  have hG1 : w.heap.size < w1.heap.size := (World.ownsRow.lt hO1 w.heap.size rfl).2
  have HV1 := Lib.hid (show TiV w1 w.heap.size w1.heap.size w.heap.size n ([] ++ List.replicate (n - 0) (Value.slice none 0 0)) (tieSt fs n 0) from
    ⟨by simpa using hO1, fun x hx => by cases hx; exact hG1, by omega, by
      have := OwnD.nils (P := fun l h x y => PBo w1 l h x y ∧ Off (Value.slice (some ⟨w.heap.size, 0, none⟩) n n).ownBlock l h) (a := Value.slice none 0 0) (b := []) (hi := w1.heap.size) (lo := w.heap.size) (la := []) (lb := []) ⟨PBo.nil _ _ _ (Nat.le_refl _), fun x hx => by cases hx; exact .inl hG1⟩ (by show _ ≤ _; omega) n
      simpa [tieSt] using this⟩)
  clear hown1 hgrow1 hO1
  go_wp2_with fail
  go_loopw [4, 11] (fun _ i wr => ∃ (k : Nat) (vs : List Value), k ≤ n ∧ i = .int .i64 k ∧ Hid (vs.length = k) ∧ Hid (TiV wr w.heap.size wr.heap.size w.heap.size n (vs ++ List.replicate (n - k) (Value.slice none 0 0)) (tieSt fs n k)) ∧ Below w.heap.size w wr) (fun _ i _ => n - (intOf i).toNat)
  case atStart => exact ⟨0, [], by omega, rfl, Lib.hid rfl, HV1, hb1⟩
  case round =>
    obtain ⟨k, vs, hk, rfl, HVS, HO, hbr⟩ := hrel
    have hzr := hbr.size
    have hGr := (OwnV.lt HO.out).2.2
    by_cases hlt : k < n
    · have i1 : (k : Int) < (n : Int) := by omega
      have i2 : (0 : Int) ≤ (k : Int) := by omega
      go_wp2_with (at_make; refine wpList_make_full _ rfl _ _ 100 rfl wr.heap.size 4 j0 _ 1 Tryd.underlying100 hj hj0 hj1 _ _ _ _ n rfl rfl rfl rfl ?b1 ?b2 ?b3 ?_)
      case b1 => rw [hj2]; omega
      case b2 => simp only [maxLen]; omega
      case b3 => omega
      intro w2 hown2 hgrow2
      have hb2 : Below wr.heap.size wr w2 := (Below.refl _ _).grown hgrow2 (Nat.le_refl _) (fun k hk => by cases hk)
      have hz2' := hb2.size
      have hO2 : OwnSl wr.heap.size 4 1 encB w2 (.slice (some ⟨wr.heap.size, 0, none⟩) n n) (List.replicate n false) := by
        unfold OwnSl
        rw [List.length_replicate, ← madeFlat (sz := 1) (enc := encB) (fun _ => rfl) (by omega) (.bool false) (false : Bool) rfl, Nat.mul_one]
        exact hown2
      obtain ⟨o1, o2, o3, o4⟩ := HO.out
      have hl2 : (vs ++ List.replicate (n - k) (Value.slice none 0 0)).length = n := by simp [HVS.out]; omega
      obtain ⟨hst, hgr⟩ := OwnSl.store (sz := 1) (enc := enc1) (fun _ => rfl) hl2.symm (OwnSl.kept o1 hb2) (k := k) (by rw [hl2]; exact hlt) (.slice (some ⟨wr.heap.size, 0, none⟩) n n)
      rw [set_rep vs n k _ _ HVS.out hlt] at hst
      have hcz := OwnSl.cell (sz := 1) (enc := enc1) (fun _ => rfl) (OwnSl.kept o1 hb2) (k := k) (y := Value.slice none 0 0) (by rw [List.getElem?_append_right (by rw [HVS.out]; exact Nat.le_refl _), HVS.out, Nat.sub_self, List.getElem?_replicate, if_pos (by omega)])
      have d0 := hcz 0 _ rfl
      have hfz : ∀ j, w2.frozen? ⟨w.heap.size, j, none⟩ = false := OwnSl.frz (OwnSl.kept o1 hb2)
      simp only [Nat.add_zero, Nat.mul_one, wSet] at d0 hst hgr
      obtain ⟨W3, hW3⟩ : ∃ W3, w2.setCell ⟨w.heap.size, k, none⟩ (.slice (some ⟨wr.heap.size, 0, none⟩) n n) = W3 := ⟨_, rfl⟩
      have hz3 : W3.heap.size = w2.heap.size := by rw [← hW3]; simp
      have hb3 : Below w.heap.size w W3 := by rw [← hW3]; exact (hbr.trans (hb2.mono hzr)).setCell (Nat.le_refl _) _
      have hD3 : OwnD (fun l h x y => PBo W3 l h x y ∧ Off (Value.slice (some ⟨w.heap.size, 0, none⟩) n n).ownBlock l h) w.heap.size wr.heap.size vs ((tieSt fs n k).take k) := by
        have h1 := OwnD.take (PBo.kind.leO wr _) k o4
        rw [List.take_left' HVS.out] at h1
        exact h1.imp (PBo.kind.leO wr _) (fun l h x y g1 g2 g3 => ⟨by
          rw [← hW3]
          exact PBo.kind.keep _ _ _ _ _ _ (PBo.kind.keep _ _ _ _ _ _ g3.1 (Kpi.of hb2)) (Kpi.setCell w2 (g3.2 w.heap.size rfl)), g3.2⟩)
      have hR3 : PBo W3 wr.heap.size W3.heap.size (.slice (some ⟨wr.heap.size, 0, none⟩) n n) (List.replicate n false) := by
        rw [hz3, ← hW3]
        exact PBo.kind.keep _ _ _ _ _ _ ⟨hO2, fun x hx => (World.ownsRow.lt hO2 x hx).2, hz2'⟩ (Kpi.setCell w2 (.inl hGr))
      have hD4 := OwnD.nils (P := fun l h x y => PBo W3 l h x y ∧ Off (Value.slice (some ⟨w.heap.size, 0, none⟩) n n).ownBlock l h) (a := Value.slice none 0 0) (b := []) ⟨PBo.nil _ _ _ (Nat.le_refl _), fun x hx => .inl (by have e := ownAt hx; omega)⟩ (OwnD.snoc hD3 (Nat.le_refl _) ⟨hR3, fun x hx => by cases hx; left; exact hGr⟩) (n - (k + 1))
      rw [tieSt_row hlt] at hD4
      rw [hW3] at hst
      obtain ⟨vs3, hvs3⟩ : ∃ vs3, (vs ++ [.slice (some ⟨wr.heap.size, 0, none⟩) n n]) ++ List.replicate (n - (k + 1)) (Value.slice none 0 0) = vs3 := ⟨_, rfl⟩
      rw [hvs3] at hst hD4
      have HV3 := Lib.hid (show TiV W3 w.heap.size W3.heap.size w.heap.size n vs3 (tieAll fs n k 0) from ⟨hst, fun x hx => (by have e := ownAt hx; omega), by omega, hD4⟩)
      obtain ⟨row, hrow⟩ : ∃ row, (Value.slice (some ⟨wr.heap.size, 0, none⟩) n n) = row := ⟨_, rfl⟩
      rw [hrow] at hvs3
      have HVS3 := Lib.hid hvs3
      have HB3 := Lib.hid hb3
      have HVL := Lib.hid (show (vs ++ [row]).length = k + 1 by simp [HVS.out])
      clear hrow
      clear hown2 hgrow2 hO2 o1 o2 o3 o4 hst hgr hcz hb3 hD3 hR3 hD4 hvs3
      go_wp2_with fail
      go_loopw [5, 21] (fun _ j wi => ∃ q : Nat, q ≤ k ∧ j = .int .i64 q ∧ Hid (TiV wi w.heap.size wi.heap.size w.heap.size n vs3 (tieAll fs n k q)) ∧ Below w.heap.size w wi) (fun _ j _ => k - (intOf j).toNat)
      case atStart => exact ⟨0, by omega, rfl, HV3, HB3.out⟩
      case round =>
        obtain ⟨q, hq, rfl, HI, hbi⟩ := hrel
        have hzi := hbi.size
        by_cases hlq : q < k
        · have i3 : (q : Int) < (k : Int) := by omega
          have i4 : (0 : Int) ≤ (q : Int) := by omega
          have i5 : (q : Int) < (n : Int) := by omega
          have hqn : q < n := by omega
          obtain ⟨f, hf⟩ : ∃ f, fs[k]? = some f := ⟨_, List.getElem?_eq_getElem (by rw [HN.out]; omega)⟩
          obtain ⟨g, hg⟩ : ∃ g, fs[q]? = some g := ⟨_, List.getElem?_eq_getElem (by rw [HN.out]; omega)⟩
          obtain ⟨r, hr⟩ : ∃ r, tiedB f g = r := ⟨_, rfl⟩
          have HT := Lib.hid hr
          have HTM := Lib.hid ((tieM_of hf hg).trans hr)
          have HVF := Lib.hid (HVV.out k f hf)
          have HVG := Lib.hid (HVV.out q g hg)
          obtain ⟨b, o, v0, v1, v2, v3, rfl, hbl, c0, c1, c2, c3, c4, hss⟩ := (HS.out.below hbi).at hf
          obtain ⟨b', o', u0, u1, u2, u3, he, hbl', d0, d1, d2, d3, d4, htt⟩ := (HS.out.below hbi).at hg
          obtain ⟨rfl, rfl, -⟩ := Addr.mk.inj (Option.some.inj he)
          have HSS := Lib.hid hss
          have HTT := Lib.hid htt
          have hlen3 : vs3.length = n := by have := HI.out.2.2.2.len; rw [tieAll_len] at this; exact this
          obtain ⟨xk, hxk⟩ : ∃ x, vs3[k]? = some x := ⟨_, List.getElem?_eq_getElem (by omega)⟩
          obtain ⟨xq, hxq⟩ : ∃ x, vs3[q]? = some x := ⟨_, List.getElem?_eq_getElem (by omega)⟩
          obtain ⟨gk, capk, hxk', hgk, hgk2, e0, e1, e2, -⟩ := TiV.store HI.out hxk (tieAll_get (fs := fs) (i := k) (j := q) hlt (Nat.le_refl _)) (tieRow_get (c := q) hqn)
          rw [tieRow_len] at hxk'
          subst hxk'
          have hGi := (OwnV.lt HI.out).2.2
          have HXK := Lib.hid hxk
          have HXQ := Lib.hid hxq
          have HE := Lib.hid (And.intro e0 (And.intro e1 (And.intro e2 (And.intro hgk hGi))))
          clear hf hg hr he hss htt hxk hxq HV3 HB3
          go_wp2_with fail
          go_region_law ((fail_if_success have := hb4); go_simp; go_wp2_with (go_at_call 96; refine (tied_b (HSS.out.mono (fun _ _ h => h.below (Below.drew (Below.refl _ _)))) (HTT.out.mono (fun _ _ h => h.below (Below.drew (Below.refl _ _)))) HVF.out HVG.out HT.out).mono ?_; rintro e w4 ⟨rfl, hb4⟩; replace hb4 : Below wr.heap.size wr w4 := (Below.drew (Below.refl _ _)).trans hb4; have e0' := (hb4.cell (p := ⟨w.heap.size, k, none⟩) HE.out.2.2.2.2).trans HE.out.1; have e1' := (hb4.cell (p := ⟨gk, q, none⟩) HE.out.2.2.2.1).trans HE.out.2.1; have e2' := (hb4.frozen (p := ⟨gk, q, none⟩) HE.out.2.2.2.1).trans HE.out.2.2.1))
          all_goals
            have hz4 := hb4.size
            have O4 := OwnV.up (OwnV.keep PBo.kind HI.out (Kpi.of hb4)) hz4
            obtain ⟨gk', capk', hx4, hl4, hlo4, -, -, -, hst4⟩ := TiV.store O4 HXK.out (tieAll_get (fs := fs) (i := k) (j := q) hlt (Nat.le_refl _)) (tieRow_get (c := q) hqn)
            obtain ⟨hx5, -, -⟩ := Value.slice.inj hx4
            obtain ⟨rfl, -, -⟩ := Addr.mk.inj (Option.some.inj hx5)
            obtain ⟨W5, hW5⟩ : ∃ W5, w4.setCell ⟨gk, q, none⟩ (.bool r) = W5 := ⟨_, rfl⟩
            have O5 := hst4 r
            rw [hW5] at O5 ⊢
            have hz5 : W5.heap.size = w4.heap.size := by rw [← hW5]; simp
            have hB5 : Below w.heap.size w W5 := by rw [← hW5]; exact (hbi.trans (hb4.mono hzi)).setCell (by simp only; omega) _
            have hrq : ((tieAll fs n k q).set k ((tieRow fs n k q k).set q r))[q]? = some (tieRow fs n k q q) := by
              rw [List.getElem?_set, if_neg (by omega), tieAll_get hqn (by omega)]
            have hrk : ((tieAll fs n k q).set k ((tieRow fs n k q k).set q r))[k]? = some ((tieRow fs n k q k).set q r) := by
              rw [List.getElem?_set, if_pos rfl, tieAll_len, if_pos hlt]
            obtain ⟨gq, capq, hxq5, hl5, hlo5, y0, y1, y2, hst5⟩ := TiV.store O5 HXQ.out hrq (tieRow_get (c := k) hlt)
            obtain ⟨gk2, capk2, hxk5, hl6, hlo6, z0, z1, z2, -⟩ := TiV.store O5 HXK.out hrk (c := q) (b := r) (by rw [List.getElem?_set, if_pos rfl, tieRow_len, if_pos hqn])
            rw [tieRow_len] at hxq5
            subst hxq5
            obtain ⟨hx7, -, -⟩ := Value.slice.inj hxk5
            obtain ⟨rfl, -, -⟩ := Addr.mk.inj (Option.some.inj hx7)
            have O6 := hst5 r
            have HSTEP := Lib.hid (tieAll_step (fs := fs) (n := n) (i := k) (j := q) hlq hlt)
            rw [HTM.out] at HSTEP
            rw [HSTEP.out] at O6
            have HO6 := Lib.hid O6
            have HB5 := Lib.hid hB5
            clear O4 O5 O6 hst4 hst5 hx4 hx5 hW5 hrq hrk hxk5 hx7 hb4 e0' e1' e2' hB5 z2 HSTEP HE c0 c1 c2 c3 c4 d0 d1 d2 d3 d4
            go_wp2_with fail
            go_region_law (fail)
            all_goals
              have hO7 : TiV _ w.heap.size _ w.heap.size n vs3 (tieAll fs n k (q + 1)) := OwnV.keep PBo.kind HO6.out (Kpi.of (Below.drew (Below.refl _ _)))
              have hB7 := Below.drew (HB5.out.setCell (p := ⟨gq, k, none⟩) (by simp only; omega) (.bool r))
              go_wp2
              go_roundw
              case rel => exact ⟨q + 1, by omega, by go_num, Lib.hid (OwnV.up hO7 (by simp [World.drew]; omega)), hB7⟩
              case measure => simp [intOf]; omega
        · have hqk : q = k := by omega
          subst hqk
          go_wp2
          go_roundw
          case rel => exact ⟨q + 1, vs ++ [row], by omega, by go_num, HVL, Lib.hid (by rw [HVS3.out]; exact HI.out), hbi⟩
          case measure => simp [intOf]; omega
    · have hkn : k = n := by omega
      subst hkn
      go_wp2
      go_ret
      exact ⟨_, rfl, HO.out, hbr⟩
end Go.Proofs.YtojafgooobpoiaaDoor
