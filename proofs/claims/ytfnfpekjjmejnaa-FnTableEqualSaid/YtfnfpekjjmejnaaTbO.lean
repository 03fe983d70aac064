/- The trie of a table: how it is made. -/
import Derived.Test.YtfnfpekjjmejnaaTbT
import Derived.Test.YtfnfpekjjmejnaaFlTr0
import Derived.Deep.AppendLies
namespace Go.Proofs.Ytfnfpekjjmejnaa
open Go.RowKit
theorem infoNd : (Try.prog.info? 91).map (fun i => (i.zero, i.size, i.bytes)) = some (some (.agg #[.int .i64 0, .int .i64 0, .int .i64 0]), 3, 24) := by kernel_rfl
def OwnNd (base : Nat) (w : World) (v : Value) (ys : List Nd) : Prop := OwnSl base 91 3 Nd.enc w v ys
theorem OwnNd.nds {base : Nat} {w : World} {v : Value} {ys : List Nd} (h : OwnNd base w v ys) : Nds w v ys := OwnSl.at (sz := 3) (enc := Nd.enc) (fun _ => rfl) h
theorem OwnNd.row {base : Nat} {w : World} {v : Value} {ys : List Nd} {n : Nat} (h : OwnNd base w v ys) (hn : ys.length = n) : w.ownsRow base 91 3 v n (ys.flatMap Nd.enc) := by
  subst hn
  exact h
/-- The trie so far. -/
def TrSt (w : World) (xs : List En) (k : Nat) (t : Value) (wr : World) : Prop :=
  ∃ ps g cap, t = .slice (some ⟨g, 0, none⟩) ps.length cap ∧ Wf ps (valsOf (xs.take k)) ∧ OwnNd w.heap.size wr t (nodes ps (valsOf (xs.take k))) ∧ ps.length ≤ 1 + 16 * k ∧ Below w.heap.size w wr ∧ w.heap.size ≤ g ∧ g < wr.heap.size
/-- The trie within one entry. -/
def TrIn (w : World) (xs : List En) (k m d EB : Nat) (f1 f2 f3 : Int) (t nd : Value) (wx : World) : Prop :=
  ∃ ps g cap j, t = .slice (some ⟨g, 0, none⟩) ps.length cap ∧ nd = .int .i64 (j : Nat) ∧ Wf ps (valsOf (xs.take k)) ∧ OwnNd w.heap.size wx (.slice (some ⟨g, 0, none⟩) ps.length cap) (nodes ps (valsOf (xs.take k))) ∧ ps.length ≤ 1 + 16 * k + d ∧ Below w.heap.size w wx ∧ w.heap.size ≤ g ∧ g < wx.heap.size ∧ g ≠ EB ∧ ps[j]? = some (pth m d) ∧
    EB < wx.heap.size ∧ wx.cell? ⟨EB, 0, none⟩ = some (.int .i64 f1) ∧ wx.cell? ⟨EB, 1, none⟩ = some (.int .i64 f2) ∧ wx.cell? ⟨EB, 2, none⟩ = some (.int .i64 f3)
def RetTrie (xs : List En) (w : World) (e : Ending) (w' : World) : Prop := ∃ v ps, e = .returned v ∧ Wf ps (valsOf xs) ∧ OwnNd w.heap.size w' v (nodes ps (valsOf xs)) ∧ Below w.heap.size w w'
set_option maxRecDepth 100000 in
set_option maxHeartbeats 4000000 in
theorem trieOf_any (xs : List En) (v : Value) (w : World) (hs : Ens w v xs) (hv : tvalid xs = true) :
    Calls Try.prog 51 #[v] w (RetTrie xs w) := by
  obtain ⟨h30, hgood⟩ := (tvalid_iff xs).1 hv
  clear hv
  obtain ⟨sa, cap, rfl, hlc, hcm, -⟩ := id hs
  unfold maxLen at hcm
  generalize hn : xs.length = n at *
  have HN := Lib.hid hn
  have HG := Lib.hid hgood
  clear hn hgood
  go_enter Try.func51, Try.ntmps51
  go_wp2_with fail
  go_loopw [3, 13] (fun t i wr => ∃ k : Nat, k ≤ n ∧ i = .int .i64 k ∧ TrSt w xs k t wr) (fun _ i _ => n - (intOf i).toNat)
  case atStart =>
    refine ⟨0, by omega, rfl, [(0, 0)], w.heap.size, 1, rfl, Wf.start, ⟨length_flatMap (sz := 3) (enc := Nd.enc) (fun _ => rfl) _, .inr ⟨w.heap.size, 1, _, rfl, Nat.le_refl _, heap_alloc_new w _, by simp [nodes], by simp [maxLen], rfl, rfl⟩⟩, by simp, by (repeat' (first | with_reducible exact Below.refl _ _ | with_reducible assumption | with_reducible refine Below.setCell ?_ ?_ _ | with_reducible refine Below.alloc ?_ ?_ _ | with_reducible refine Below.drew ?_ | with_reducible refine belDrewN ?_ _ | with_reducible refine Below.trans ?_ (Below.mono (by assumption) ?_) | omega | (simp; omega) | (simp; done))), Nat.le_refl _, by simp⟩
  case round =>
    obtain ⟨k, hk, rfl, hst⟩ := hrel
    by_cases hlt : k < n
    · obtain ⟨ps, g, capt, rfl, hwf, hown, hpl, hbr, hg0, hg1⟩ := hst
      have hzr := hbr.size
      have hs2 := Lib.hid (hs.below hbr)
      obtain ⟨b, o, f1, f2, f3, rfl, hbl, hx, c0, c1, c2⟩ := hs2.out.at (show k < xs.length by rw [HN.out]; exact hlt)
      have hok := tgood_ok (by rw [HN.out]; exact HG.out) hx
      obtain ⟨hpf, _, _⟩ := en_ok hok
      obtain ⟨m, l, e1, e2, hl16, hm, _⟩ := pf_nat hpf
      subst e1 e2
      have HX := Lib.hid hx
      have HV := Lib.hid (show valsOf (xs.take (k + 1)) = updV (valsOf (xs.take k)) (pth m l) f3 by
        rw [List.take_succ_eq_append_getElem (by rw [HN.out]; exact hlt), valsOf_snoc]
        have : xs[k]'(by rw [HN.out]; exact hlt) = ⟨⟨(m : Int), (l : Int)⟩, f3⟩ := by
          have := HX.out
          rw [List.getElem?_eq_getElem (by rw [HN.out]; exact hlt)] at this
          exact Option.some.inj this
        rw [this]; simp [En.path])
      have i1 : (k : Int) < (n : Int) := by omega
      have i2 : (0 : Int) ≤ (k : Int) := by omega
      have HWF := Lib.hid hwf
      have hal : Below wr.heap.size wr (wr.alloc (.cells #[.int .i64 m, .int .i64 l, .int .i64 f3] 35)) := (Below.refl _ _).alloc (Nat.le_refl _) _
      have HIN := Lib.hid (show TrIn w xs k m 0 wr.heap.size m l f3 (.slice (some ⟨g, 0, none⟩) ps.length capt) (.int .i64 0) (wr.alloc (.cells #[.int .i64 m, .int .i64 l, .int .i64 f3] 35)) from
        ⟨ps, g, capt, 0, rfl, rfl, hwf, OwnSl.kept hown hal, by omega, hbr.trans (hal.mono hzr), hg0, by simp; omega, by omega, by rw [pth_zero hm]; exact hwf.root, by simp, by simp, by simp, by simp⟩)
      clear hwf hown hx hok hpf hal
      obtain ⟨wo, rfl⟩ : ∃ wo : World, wo = wr := ⟨_, rfl⟩
      go_wp2_with fail
      go_loopw [3, 6, 7, 8, 20] (fun t nd _ _ i wx => ∃ d : Nat, d ≤ l ∧ i = .int .i64 d ∧ TrIn w xs k m d wo.heap.size m l f3 t nd wx) (fun _ _ _ _ i _ => l - (intOf i).toNat)
      case atStart => exact ⟨0, by omega, rfl, HIN.out⟩
      case round =>
        obtain ⟨d, hd, rfl, ps, g, cap', j, rfl, rfl, hwf, hown, hpl, hbx, hg0, hg1, hgne, hps, hEB, e0, e1, e2⟩ := hrel
        clear HIN HWF c0 c1 c2 hs2
        have hzx := hbx.size
        obtain ⟨wx, rfl⟩ : ∃ x : World, x = wr := ⟨_, rfl⟩
        have hj1 : j < ps.length := (List.getElem?_eq_some_iff.1 hps).1
        obtain ⟨b', o', ha', hbl', c0, c1, c2⟩ := Nds.at (OwnNd.nds hown) (nodes_get (val := valsOf (xs.take k)) hps)
        obtain ⟨rfl, rfl, _⟩ := Addr.mk.inj (Option.some.inj ha')
        clear ha'
        simp only [nodeOf, Nat.zero_add] at c0 c1 c2
        have j1 : (j : Int) < (ps.length : Int) := by omega
        have j2 : (0 : Int) ≤ (j : Int) := by omega
        by_cases hdl : d < l
        · have d1 : (d : Int) < (l : Int) := by omega
          have d2 : (0 : Int) ≤ (d : Int) := by omega
          rcases (show m / 2 ^ (15 - d) % 2 = 0 ∨ m / 2 ^ (15 - d) % 2 = 1 by omega) with hdg | hdg
          · have hsu := pth_succ (a := m) (d := d) (by omega)
            rw [hdg] at hsu
            have hlk := link_zero hwf (q := pth m d) (b := 0)
            have hlg := @link_get ps (child (pth m d) 0)
            have HD := Lib.hid hdg
            have HSU := Lib.hid hsu
            have HADD := Lib.hid (fun h => nodes_add hwf (b := 0) (by omega) hps h)
            have HWF := Lib.hid (fun h => hwf.add (b := 0) (by omega) (List.mem_of_getElem? hps) h)
            have HWF0 := Lib.hid hwf
            have HPS := Lib.hid hps
            have HO := Lib.hid hown
            have HSN := Lib.hid (show (nodeOf ps (valsOf (xs.take k)) (pth m d)).setNext 0 (ps.length : Int) = ⟨(ps.length : Int), (nodeOf ps (valsOf (xs.take k)) (pth m d)).n1, (nodeOf ps (valsOf (xs.take k)) (pth m d)).v⟩ from rfl)
            have HND := Lib.hid (nodes_get (val := valsOf (xs.take k)) hps)
            generalize hlq : link ps (child (pth m d) 0) = lk at *
            have HLK := Lib.hid hlk
            have HLG := Lib.hid hlg
            clear hdg hsu hlk hlg hlq hwf hps hown
            generalize hnp : ps.length = np at *
            have HNP := Lib.hid hnp
            clear hnp
            by_cases hl0 : lk = 0
            · subst hl0
              have hnew := HLK.out.1 rfl
              have HNEW := Lib.hid hnew
              clear hnew
              obtain ⟨i0, hi, hz0, hz1, hz2⟩ := info_parts infoNd
              go_wp2_with (first | (go_at_call 67; refine (digitAt_0 (by omega) hm HD.out _).mono ?_; rintro e w9 ⟨rfl, rfl⟩) | (at_builtin; refine wpList_append_lies _ rfl _ _ 74 rfl w.heap.size 91 i0 _ 3 24 Try.underlying74 hi hz0 hz1 hz2 rfl (by decide) _ np _ rfl (World.ownsRow.alloc (OwnNd.row HO.out (by rw [length_nodes, HNP.out])) _) ⟨wx.heap.size, 0, none⟩ 1 1 (Nd.enc ⟨0, 0, -1⟩) rfl rfl ?c1 ?c2 (by omega) ?c3 ?c4 ?c5 (wx.heap.size + 1) (by simp) ?_))
              case c1 => exact cellsNew wx (Nd.enc ⟨0, 0, -1⟩) _
              case c2 => simp [Value.oneCell']
              case c3 => simp only [maxLen]; omega
              case c4 => omega
              case c5 => simp; omega
              intro g' cap' w3 hown3 hgrow3 hg3 hlt3
              have hB3 := belGrown (hbx.alloc (by omega) _) (World.ownsRow.alloc (OwnNd.row HO.out (by rw [length_nodes, HNP.out])) _) hgrow3 (by simp; omega)
              have hg' : w.heap.size ≤ g' ∧ g' ≠ wo.heap.size := by
                rcases hg3 with h | h
                · have : g = g' := by simpa [Value.ownBlock] using h
                  subst this; exact ⟨hg0, hgne⟩
                · subst h; exact ⟨by omega, by omega⟩
              have hfar : ∀ o, w3.cell? ⟨wo.heap.size, o, none⟩ = wx.cell? ⟨wo.heap.size, o, none⟩ := fun o => by
                rw [hgrow3.cell_far (a := ⟨wo.heap.size, o, none⟩) (by simp; omega) (by simp [Value.ownBlock]; omega), World.cell?_alloc_lt _ _ _ (by simpa using hEB)]
              have k0 := (hfar 0).trans e0; have k1 := (hfar 1).trans e1; have k2 := (hfar 2).trans e2
              have hz3 := hgrow3.size; simp at hz3
              have ho3 : OwnNd w.heap.size w3 (.slice (some ⟨g', 0, none⟩) (np + 1) cap') (nodes ps (valsOf (xs.take k)) ++ [⟨0, 0, -1⟩]) := OwnSl.pushed (by rw [length_nodes, HNP.out]) hown3
              have hfz := OwnSl.frz ho3
              have hnd3 : (nodes ps (valsOf (xs.take k)) ++ [⟨0, 0, -1⟩])[j]? = some (nodeOf ps (valsOf (xs.take k)) (pth m d)) := by
                rw [List.getElem?_append_left (by rw [length_nodes, HNP.out]; exact hj1)]; exact HND.out
              obtain ⟨b3, o3, ha3, hbl3, y0, y1, y2⟩ := Nds.at (OwnNd.nds ho3) hnd3
              obtain ⟨rfl, rfl, _⟩ := Addr.mk.inj (Option.some.inj ha3)
              simp only [Nat.zero_add] at y0 y1 y2
              have hst := OwnSl.storeAt (sz := 3) (enc := Nd.enc) (fun _ => rfl) (by simp [length_nodes, HNP.out]) ho3 hnd3 (y' := (nodeOf ps (valsOf (xs.take k)) (pth m d)).setNext 0 (np : Int)) (j := 0) (c := .int .i64 np) (by omega) (by rw [HSN.out]; rfl)
              (try simp only [Nat.add_zero] at hst)
              have hcell := World.cell?_setCell_same' w3 ⟨g', j * 3, none⟩ (.int .i64 np) (by rw [y0]; rfl)
              have HST := Lib.hid hst
              clear hst ho3 hown3 hgrow3 hfar hg3 ha3 hnd3 e0 e1 e2 c0 c1 c2
              have i5 : (j : Int) < (np : Int) + 1 := by omega
              go_wp2
              go_roundw
              case rel =>
                have hst := HST.out.1
                rw [← HADD.out HNEW.out] at hst
                refine ⟨d + 1, by omega, by go_num, ps ++ [child (pth m d) 0], g', cap', np, by rw [List.length_append, HNP.out]; rfl, rfl, HWF.out HNEW.out, by rw [List.length_append, HNP.out]; exact hst, by simp [HNP.out]; omega, hB3.setCell (by simpa using hg'.1) _, hg'.1, by simpa [World.setCell] using hlt3, hg'.2, ?_, by simpa [World.setCell] using (by omega : wo.heap.size < w3.heap.size), ?_, ?_, ?_⟩
                · rw [List.getElem?_append_right (by rw [HNP.out]; exact Nat.le_refl _), HNP.out, HSU.out]; simp
                · rw [World.cell?_setCell_other _ _ _ _ (by intro h; exact hg'.2 (Addr.mk.inj h).1)]; exact k0
                · rw [World.cell?_setCell_other _ _ _ _ (by intro h; exact hg'.2 (Addr.mk.inj h).1)]; exact k1
                · rw [World.cell?_setCell_other _ _ _ _ (by intro h; exact hg'.2 (Addr.mk.inj h).1)]; exact k2
              case measure => simp [intOf]; omega
            · have hmem : child (pth m d) 0 ∈ ps := by
                cases Classical.em (child (pth m d) 0 ∈ ps) with
                | inl h => exact h
                | inr h => exact absurd (HLK.out.2 h) hl0
              have HG := Lib.hid (show ps[lk]? = some (pth m (d + 1)) by rw [HSU.out]; exact HLG.out hmem)
              have g3 : ((lk : Int) == 0) = false := by simpa using hl0
              clear hmem
              go_wp2_with (go_at_call 67; refine (digitAt_0 (by omega) hm HD.out _).mono ?_; rintro e w9 ⟨rfl, rfl⟩)
              go_roundw
              case rel => exact ⟨d + 1, by omega, by go_num, ps, g, cap', lk, by rw [HNP.out], rfl, HWF0.out, by rw [HNP.out]; exact HO.out, by rw [HNP.out]; omega, hbx, hg0, hg1, hgne, HG.out, hEB, e0, e1, e2⟩
              case measure => simp [intOf]; omega
          · have hsu := pth_succ (a := m) (d := d) (by omega)
            rw [hdg] at hsu
            have hlk := link_zero hwf (q := pth m d) (b := 1)
            have hlg := @link_get ps (child (pth m d) 1)
            have HD := Lib.hid hdg
            have HSU := Lib.hid hsu
            have HADD := Lib.hid (fun h => nodes_add hwf (b := 1) (by omega) hps h)
            have HWF := Lib.hid (fun h => hwf.add (b := 1) (by omega) (List.mem_of_getElem? hps) h)
            have HWF0 := Lib.hid hwf
            have HPS := Lib.hid hps
            have HO := Lib.hid hown
            have HSN := Lib.hid (show (nodeOf ps (valsOf (xs.take k)) (pth m d)).setNext 1 (ps.length : Int) = ⟨(nodeOf ps (valsOf (xs.take k)) (pth m d)).n0, (ps.length : Int), (nodeOf ps (valsOf (xs.take k)) (pth m d)).v⟩ from rfl)
            have HND := Lib.hid (nodes_get (val := valsOf (xs.take k)) hps)
            generalize hlq : link ps (child (pth m d) 1) = lk at *
            have HLK := Lib.hid hlk
            have HLG := Lib.hid hlg
            clear hdg hsu hlk hlg hlq hwf hps hown
            generalize hnp : ps.length = np at *
            have HNP := Lib.hid hnp
            clear hnp
            by_cases hl0 : lk = 0
            · subst hl0
              have hnew := HLK.out.1 rfl
              have HNEW := Lib.hid hnew
              clear hnew
              obtain ⟨i0, hi, hz0, hz1, hz2⟩ := info_parts infoNd
              go_wp2_with (first | (go_at_call 67; refine (digitAt_1 (by omega) hm HD.out _).mono ?_; rintro e w9 ⟨rfl, rfl⟩) | (at_builtin; refine wpList_append_lies _ rfl _ _ 74 rfl w.heap.size 91 i0 _ 3 24 Try.underlying74 hi hz0 hz1 hz2 rfl (by decide) _ np _ rfl (World.ownsRow.alloc (OwnNd.row HO.out (by rw [length_nodes, HNP.out])) _) ⟨wx.heap.size, 0, none⟩ 1 1 (Nd.enc ⟨0, 0, -1⟩) rfl rfl ?c1 ?c2 (by omega) ?c3 ?c4 ?c5 (wx.heap.size + 1) (by simp) ?_))
              case c1 => exact cellsNew wx (Nd.enc ⟨0, 0, -1⟩) _
              case c2 => simp [Value.oneCell']
              case c3 => simp only [maxLen]; omega
              case c4 => omega
              case c5 => simp; omega
              intro g' cap' w3 hown3 hgrow3 hg3 hlt3
              have hB3 := belGrown (hbx.alloc (by omega) _) (World.ownsRow.alloc (OwnNd.row HO.out (by rw [length_nodes, HNP.out])) _) hgrow3 (by simp; omega)
              have hg' : w.heap.size ≤ g' ∧ g' ≠ wo.heap.size := by
                rcases hg3 with h | h
                · have : g = g' := by simpa [Value.ownBlock] using h
                  subst this; exact ⟨hg0, hgne⟩
                · subst h; exact ⟨by omega, by omega⟩
              have hfar : ∀ o, w3.cell? ⟨wo.heap.size, o, none⟩ = wx.cell? ⟨wo.heap.size, o, none⟩ := fun o => by
                rw [hgrow3.cell_far (a := ⟨wo.heap.size, o, none⟩) (by simp; omega) (by simp [Value.ownBlock]; omega), World.cell?_alloc_lt _ _ _ (by simpa using hEB)]
              have k0 := (hfar 0).trans e0; have k1 := (hfar 1).trans e1; have k2 := (hfar 2).trans e2
              have hz3 := hgrow3.size; simp at hz3
              have ho3 : OwnNd w.heap.size w3 (.slice (some ⟨g', 0, none⟩) (np + 1) cap') (nodes ps (valsOf (xs.take k)) ++ [⟨0, 0, -1⟩]) := OwnSl.pushed (by rw [length_nodes, HNP.out]) hown3
              have hfz := OwnSl.frz ho3
              have hnd3 : (nodes ps (valsOf (xs.take k)) ++ [⟨0, 0, -1⟩])[j]? = some (nodeOf ps (valsOf (xs.take k)) (pth m d)) := by
                rw [List.getElem?_append_left (by rw [length_nodes, HNP.out]; exact hj1)]; exact HND.out
              obtain ⟨b3, o3, ha3, hbl3, y0, y1, y2⟩ := Nds.at (OwnNd.nds ho3) hnd3
              obtain ⟨rfl, rfl, _⟩ := Addr.mk.inj (Option.some.inj ha3)
              simp only [Nat.zero_add] at y0 y1 y2
              have hst := OwnSl.storeAt (sz := 3) (enc := Nd.enc) (fun _ => rfl) (by simp [length_nodes, HNP.out]) ho3 hnd3 (y' := (nodeOf ps (valsOf (xs.take k)) (pth m d)).setNext 1 (np : Int)) (j := 1) (c := .int .i64 np) (by omega) (by rw [HSN.out]; rfl)
              (try simp only [Nat.add_zero] at hst)
              have hcell := World.cell?_setCell_same' w3 ⟨g', j * 3 + 1, none⟩ (.int .i64 np) (by rw [y1]; rfl)
              have HST := Lib.hid hst
              clear hst ho3 hown3 hgrow3 hfar hg3 ha3 hnd3 e0 e1 e2 c0 c1 c2
              have i5 : (j : Int) < (np : Int) + 1 := by omega
              go_wp2
              go_roundw
              case rel =>
                have hst := HST.out.1
                rw [← HADD.out HNEW.out] at hst
                refine ⟨d + 1, by omega, by go_num, ps ++ [child (pth m d) 1], g', cap', np, by rw [List.length_append, HNP.out]; rfl, rfl, HWF.out HNEW.out, by rw [List.length_append, HNP.out]; exact hst, by simp [HNP.out]; omega, hB3.setCell (by simpa using hg'.1) _, hg'.1, by simpa [World.setCell] using hlt3, hg'.2, ?_, by simpa [World.setCell] using (by omega : wo.heap.size < w3.heap.size), ?_, ?_, ?_⟩
                · rw [List.getElem?_append_right (by rw [HNP.out]; exact Nat.le_refl _), HNP.out, HSU.out]; simp
                · rw [World.cell?_setCell_other _ _ _ _ (by intro h; exact hg'.2 (Addr.mk.inj h).1)]; exact k0
                · rw [World.cell?_setCell_other _ _ _ _ (by intro h; exact hg'.2 (Addr.mk.inj h).1)]; exact k1
                · rw [World.cell?_setCell_other _ _ _ _ (by intro h; exact hg'.2 (Addr.mk.inj h).1)]; exact k2
              case measure => simp [intOf]; omega
            · have hmem : child (pth m d) 1 ∈ ps := by
                cases Classical.em (child (pth m d) 1 ∈ ps) with
                | inl h => exact h
                | inr h => exact absurd (HLK.out.2 h) hl0
              have HG := Lib.hid (show ps[lk]? = some (pth m (d + 1)) by rw [HSU.out]; exact HLG.out hmem)
              have g3 : ((lk : Int) == 0) = false := by simpa using hl0
              clear hmem
              go_wp2_with (go_at_call 67; refine (digitAt_1 (by omega) hm HD.out _).mono ?_; rintro e w9 ⟨rfl, rfl⟩)
              go_roundw
              case rel => exact ⟨d + 1, by omega, by go_num, ps, g, cap', lk, by rw [HNP.out], rfl, HWF0.out, by rw [HNP.out]; exact HO.out, by rw [HNP.out]; omega, hbx, hg0, hg1, hgne, HG.out, hEB, e0, e1, e2⟩
              case measure => simp [intOf]; omega
        · obtain rfl : d = l := by omega
          have HVAL := Lib.hid (nodes_val hwf hps f3)
          have HWV := Lib.hid (hwf.val (List.mem_of_getElem? hps) f3)
          have hst := OwnSl.storeAt (sz := 3) (enc := Nd.enc) (fun _ => rfl) (by rw [length_nodes]) hown (nodes_get (val := valsOf (xs.take k)) hps) (y' := ⟨(nodeOf ps (valsOf (xs.take k)) (pth m d)).n0, (nodeOf ps (valsOf (xs.take k)) (pth m d)).n1, f3⟩) (j := 2) (c := .int .i64 f3) (by omega) rfl
          have HST := Lib.hid hst
          have hfz := OwnSl.frz hown
          clear hst hwf hps hown
          generalize hnp : ps.length = np at *
          have HNP := Lib.hid hnp
          clear hnp
          go_wp2
          go_roundw
          case rel =>
            refine ⟨k + 1, by omega, by go_num, ps, g, cap', by rw [HNP.out], ?_, ?_, by rw [HNP.out]; omega, hbx.setCell (by simpa using hg0) _, hg0, by simpa [World.setCell] using hg1⟩
            · rw [HV.out]; exact HWV.out
            · rw [HV.out, HVAL.out]; exact HST.out.1
          case measure => simp [intOf]; omega
    · have HE := Lib.hid (show k = n by omega)
      obtain ⟨ps, g, capt, rfl, hwf, hown, hpl, hbr, hg0, hg1⟩ := hst
      have HO := Lib.hid hown
      have HW := Lib.hid hwf
      clear hown hwf
      go_wp2
      go_ret
      refine ⟨_, ps, rfl, ?_, ?_, hbr⟩
      · have := HW.out
        rwa [HE.out, ← HN.out, List.take_length] at this
      · have := HO.out
        rwa [HE.out, ← HN.out, List.take_length] at this
end Go.Proofs.Ytfnfpekjjmejnaa
