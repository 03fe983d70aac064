/- Lists of boxes in the exact laws; live parts and dead rules: plain laws. -/
import Derived.Test.YtajcogpfmpehkaaGreatDoorDxBT
import Derived.Test.YtajcogpfmpehkaaGreatDoorFnX
import Derived.Test.YtajcogpfmpehkaaGreatDoorFtW
import Derived.Test.YtajcogpfmpehkaaGreatDoorCuW
import Derived.Test.YtajcogpfmpehkaaGreatDoorDxAJ
namespace Go.Proofs.YtajcogpfmpehkaaGreatDoor
open Go.RowKit
/-- Boxes of the call's own. -/
def GBs : World → Nat → Nat → Value → List Bx → Prop := OwnG 68 1 enc1 GRw
theorem GBs.kind : Kind GBs := OwnG.kind GRw.kind
theorem GBs.bxs {w : World} {lo hi : Nat} {v : Value} {bs : List Bx} (h : GBs w lo hi v bs) : Bxs lo w v bs := by
  obtain ⟨vs, h1, h2, h3, h4⟩ := h
  exact ⟨vs, OwnSl.fr (sz := 1) (enc := enc1) (fun _ => rfl) h1, h4.all2 (GRw.kind.leO w _) (fun l m x y g1 _ g3 => Rws.mono g3.1.rws g1)⟩
theorem GBs.form {w : World} {lo hi : Nat} {v : Value} {bs : List Bx} (h : GBs w lo hi v bs) : ∃ a cap, v = .slice a bs.length cap ∧ bs.length ≤ cap ∧ cap ≤ maxLen := Bxs.form h.bxs
theorem GBs.nil (w : World) {lo hi : Nat} (h : lo ≤ hi) : GBs w lo hi (.slice none 0 0) [] := ⟨[], World.ownsRow_nil _ _ _ _, (fun z hz => by cases hz), h, h⟩
set_option maxHeartbeats 2000000 in
set_option maxRecDepth 100000 in
theorem boxesOf_own {lo : Nat} (bs : List Bx) (v : Value) (w : World) (hs : Iss lo w v bs) (hl : bs.length ≤ 1000000) (hle : ∀ (k : Nat) b, bs[k]? = some b → ∀ (j : Nat) xs, b[j]? = some xs → xs.length ≤ 1000000) :
    Calls Tryz.prog 30 #[v] w fun e w' => ∃ v', e = .returned v' ∧ GBs w' w.heap.size w'.heap.size v' bs ∧ Below w.heap.size w w' := by
  obtain ⟨a, cap, rfl, hlc, hcm⟩ := hs.form
  unfold maxLen at hcm
  generalize hn : bs.length = n at *
  have HN := Lib.hid hn
  have HS := Lib.hid hs
  have HLE := Lib.hid hle
  obtain ⟨i0, hi, hy0, hy1, hy2⟩ := info_parts infoBx
  clear hn hs hle
  go_enter Tryz.func30, Tryz.ntmps30
  go_wp2_with (at_make; refine wpList_make_own _ rfl _ _ 30 rfl w.heap.size 68 i0 _ 1 Tryz.underlying30 hi hy0 hy1 _ _ _ n rfl rfl rfl ?b1 ?b2 ?b3 ?_)
  case b1 => rw [hy2]; omega
  case b2 => simp only [maxLen]; omega
  case b3 => omega
  intro w1 hown1 hgrow1
  have hb1 : Below w.heap.size w w1 := (Below.refl _ _).grown hgrow1 (Nat.le_refl _) (fun k hk => by cases hk)
  have HO1 := Lib.hid (show OwnSl w.heap.size 68 1 enc1 w1 (.slice (some ⟨w.heap.size, 0, none⟩) 0 n) ([] : List Value) by simpa [OwnSl] using hown1)
  clear hown1 hgrow1
  go_wp2_with fail
  go_loopw [3, 5, 11] (fun o _ i wr => ∃ (k : Nat) (rs : List Value), k ≤ n ∧ i = .int .i64 k ∧ OwnSl w.heap.size 68 1 enc1 wr o rs ∧ Hid (∀ z, o.ownBlock = some z → z < wr.heap.size) ∧ Hid (OwnD (fun l h y z => GRw wr l h y z ∧ Off o.ownBlock l h) w.heap.size wr.heap.size rs (bs.take k)) ∧ Below w.heap.size w wr) (fun _ _ i _ => n - (intOf i).toNat)
  case atStart => exact ⟨0, [], by omega, rfl, HO1.out, Lib.hid (fun z hz => (World.ownsRow.lt HO1.out z hz).2), Lib.hid hb1.size, hb1⟩
  case round =>
    obtain ⟨k, rs, hk, rfl, hO, HX, HD, hbr⟩ := hrel
    have HO := Lib.hid hO
    clear hO HO1 hb1
    have hzr := hbr.size
    by_cases hlt : k < n
    · have i1 : (k : Int) < (n : Int) := by omega
      have i2 : (0 : Int) ≤ (k : Int) := by omega
      obtain ⟨f, hx⟩ : ∃ f, bs[k]? = some f := ⟨_, List.getElem?_eq_getElem (by rw [HN.out]; exact hlt)⟩
      obtain ⟨b, o, v0, v1, v2, v3, rfl, hbl, c0, c1, c2, c3, hss⟩ := (HS.out.below hbr).at hx
      obtain ⟨a0, n0, p0, a1, n1, p1, a2, n2, p2, a3, n3, p3, rfl, rfl, rfl, rfl⟩ := sl4_form hss
      have HXX := Lib.hid hx
      have HSS := Lib.hid hss
      have HLF := Lib.hid (HLE.out k f hx)
      have HBD := Lib.hid (show rs.length ≤ 1000000 by have := HD.out.len; rw [List.length_take] at this; omega)
      clear hx hss
      have hal4 : Below wr.heap.size wr (wr.alloc (.cells #[.slice a0 n0 p0, .slice a1 n1 p1, .slice a2 n2 p2, .slice a3 n3 p3] 77)) := (Below.refl _ _).alloc (Nat.le_refl _) _
      go_wp2_with fail
      refine (box_any f _ _ _ _ wr _ HSS.out hal4 HLF.out).mono ?_
      rintro e w4 ⟨v4, rfl, ho4, hb4⟩
      have hw4 : Below wr.heap.size wr w4 := hal4.trans (hb4.mono hal4.size)
      have hz4 := hw4.size
      have hz5 := hb4.size
      simp only [World.size_alloc] at ho4 hz5
      obtain ⟨va4, vc4, rfl, -, -⟩ := ho4.rws.form
      have HG4 := Lib.hid (show GRw w4 wr.heap.size w4.heap.size _ f from (OwnRw.mono ho4 (by omega) (Nat.le_refl _)).g)
      have HW4 := Lib.hid hw4
      clear ho4 hb4
      go_wp2_with (at_builtin; refine wpList_append_lies _ rfl _ _ 30 rfl w.heap.size 68 i0 _ 1 24 Tryz.underlying30 hi hy0 hy1 hy2 rfl (by decide) _ rs.length (rs.flatMap enc1) rfl (World.ownsRow.alloc (OwnSl.kept HO.out HW4.out) _) ⟨w4.heap.size, 0, none⟩ 1 1 (enc1 (.slice va4 f.length vc4)) rfl rfl (cellsNew w4 (enc1 (.slice va4 f.length vc4)) _) ?c2 (by decide) ?c3 ?c4 ?c5 _ rfl ?_)
      case c2 => simp [Value.oneCell']
      case c3 => have := HBD.out; simp only [maxLen]; omega
      case c4 => have := HBD.out; omega
      case c5 => simp; omega
      intro g8 cap8 w8 hown8 hgrow8 hlies8 hlt8
      have hown9 : OwnSl w.heap.size 68 1 enc1 w8 (.slice (some ⟨g8, 0, none⟩) (rs.length + 1) cap8) (rs ++ [.slice va4 f.length vc4]) := by unfold OwnSl; simpa using hown8
      have hp8 := OwnG.push (P := GRw) (e := 68) (sz := 1) (enc := enc1) GRw.kind (w := wr) (w1 := w4) HD.out HX.out (by omega) HW4.out HG4.out (grown_old hgrow8) hown9 hlies8 hlt8 (by simp)
      have hB8 : Below w.heap.size w w8 := belGrown ((hbr.trans (HW4.out.mono hzr)).alloc (by omega) _) (World.ownsRow.alloc (OwnSl.kept HO.out HW4.out) _) hgrow8 (by simp; omega)
      have HP8 := Lib.hid hp8
      clear hown8 hgrow8 hlies8 hlt8 hown9 hp8
      go_wp2
      go_roundw
      case rel =>
        obtain ⟨vs6, ho6, hv6, hl6, hd6⟩ := HP8.out
        refine ⟨k + 1, vs6, by omega, by go_num, ho6, Lib.hid hv6, Lib.hid ?_, hB8⟩
        rw [List.take_add_one, HXX.out]
        exact hd6
      case measure => simp [intOf]; omega
    · have hkn : k = n := by omega
      go_wp2
      go_ret
      refine ⟨u3, rfl, ⟨rs, HO.out, HX.out, hzr, ?_⟩, hbr⟩
      have := HD.out
      rwa [List.take_of_length_le (by rw [HN.out]; omega)] at this
theorem fboxes_valid {fs : List Ft} (h : fvalid fs = true) : ∀ z ∈ fboxes fs, bvalid z = true := by
  intro z hz
  unfold fboxes at hz
  obtain ⟨f, hf, rfl⟩ := List.mem_map.1 hz
  obtain ⟨k, hk⟩ := List.getElem?_of_mem hf
  exact fvalid_at h hk
theorem fvalid_take {fs : List Ft} (h : fvalid fs = true) (k : Nat) : fvalid (fs.take k) = true := fvalid_sub h (List.length_take_le' _ _) (fun _ hg => List.mem_of_mem_take hg)
/-- What the rules before rule k leave of its box. -/
def livek (fs : List Ft) (k : Nat) : Option (List Bx) := match fs[k]? with
  | some f => blessB f.box (fboxes (fs.take k))
  | none => none
def livep (fs : List Ft) (n : Int) : Option (List Bx) := if fvalid fs && inB n 0 ((fs.length : Int) - 1) then livek fs n.toNat else none
def livef (fs : List Ft) (n : Int) : List Bx := (livep fs n).getD []
theorem blessB_valid {b : Bx} {xs ys : List Bx} (hb : bvalid b = true) (h : blessB b xs = some ys) : rvalid ys = true := bless_valid (bstart_valid hb) h
/-- Rule k decides about nothing. -/
def deadk (fs : List Ft) (k : Nat) : Bool := match livek fs k with
  | some [] => true
  | _ => false
def deadl (fs : List Ft) : Nat → List Int
  | 0 => []
  | k + 1 => deadl fs k ++ (if deadk fs k then [(k : Int)] else [])
def deads (fs : List Ft) : List Int := if fvalid fs then deadl fs fs.length else []
def dropl (fs : List Ft) : Nat → List Ft
  | 0 => []
  | k + 1 => dropl fs k ++ (if deadk fs k then [] else (fs[k]?).toList)
def dropd (fs : List Ft) : List Ft := if fvalid fs then dropl fs fs.length else []
theorem deadk_of {fs : List Ft} {k : Nat} {o : Option (List Bx)} (h : livek fs k = o) : deadk fs k = (o.isSome && (o.getD []).isEmpty) := by
  unfold deadk
  rw [h]
  cases o with
  | none => rfl
  | some ys => cases ys <;> rfl
theorem dropl_mem (fs : List Ft) : ∀ n, ∀ g ∈ dropl fs n, g ∈ fs
  | 0, g, hg => by simp [dropl] at hg
  | n + 1, g, hg => by
    simp only [dropl, List.mem_append] at hg
    rcases hg with hg | hg
    · exact dropl_mem fs n g hg
    · split at hg
      · simp at hg
      · cases hx : fs[n]? with
        | none => rw [hx] at hg; simp at hg
        | some f => rw [hx] at hg; simp at hg; subst hg; exact List.mem_of_getElem? hx
theorem dropl_len (fs : List Ft) : ∀ n, n ≤ fs.length → (dropl fs n).length + (deadl fs n).length = n
  | 0, _ => rfl
  | n + 1, h => by
    have ih := dropl_len fs n (by omega)
    simp only [dropl, deadl, List.length_append]
    rw [List.getElem?_eq_getElem (by omega : n < fs.length)]
    split <;> simp <;> omega
theorem dropd_valid (fs : List Ft) : fvalid (dropd fs) = true := by
  unfold dropd
  split
  · rename_i h
    have := dropl_len fs fs.length (Nat.le_refl _)
    exact fvalid_sub h (by omega) (dropl_mem fs _)
  · rfl
theorem any_boxes (fs : List Ft) (p : Pk) : (fboxes fs).any (fun z => bhas z p) = fs.any (fun f => bhas f.box p) := by
  unfold fboxes
  rw [List.any_map]
  rfl
/-- Without the dead rules every packet is decided as before. -/
theorem jw_append (p : Pk) (r : Bool) : ∀ (xs ys : List Ft), jw (xs ++ ys) r p = if xs.any (fun f => bhas f.box p) then jw xs r p else jw ys r p
  | [], ys => rfl
  | x :: xs, ys => by
    rw [List.cons_append, List.any_cons]
    simp only [jw]
    rw [jw_append p r xs ys]
    cases bhas x.box p <;> simp
theorem take_any_succ {fs : List Ft} {p : Pk} {n : Nat} {f : Ft} (h : fs[n]? = some f) : (fs.take (n + 1)).any (fun f => bhas f.box p) = ((fs.take n).any (fun f => bhas f.box p) || bhas f.box p) := by
  rw [List.take_add_one, h, List.any_append]; simp
end Go.Proofs.YtajcogpfmpehkaaGreatDoor
