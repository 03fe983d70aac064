/- Drawn flows. -/
import Derived.Test.YtlppchkilinpfaaDoorRdPk
import Derived.Test.YtlppchkilinpfaaDoorFlTr
namespace Go.Proofs.YtlppchkilinpfaaDoor
open Go.RowKit
theorem OwnSl.mv {α : Type} {R base e sz : Nat} {enc : α → List Value} {w w' : World} {v : Value} {ys : List α} (h : OwnSl base e sz enc w v ys) (hm : Mv R w.heap.size w w') (hR : R < base) : OwnSl base e sz enc w' v ys := by
  refine ⟨h.1, ?_⟩
  obtain ⟨_, h | ⟨g, cap, cur, rfl, hg, hh, r⟩⟩ := h
  · exact Or.inl h
  · exact Or.inr ⟨g, cap, cur, rfl, hg, (hm.block g (Array.getElem?_eq_some_iff.1 hh).1 (by omega)).trans hh, r⟩
/-- The list in the making. -/
def FlSt (R : Nat) (bs : List Int) (p : Nat) (w : World) (v : Value) (wx : World) : Prop :=
  ∃ ys q, OwnFl w.heap.size wx v ys ∧ ys.length ≤ 21 ∧ RdAt R bs wx q ∧ q ≤ p ∧ Mv R w.heap.size w wx
def DrawnFls (R : Nat) (bs : List Int) (p : Nat) (w : World) (e : Ending) (w' : World) : Prop :=
  ∃ v' ys q, e = .returned v' ∧ OwnFl w.heap.size w' v' ys ∧ ys.length ≤ 23 ∧ RdAt R bs w' q ∧ q ≤ p + 300 ∧ Mv R w.heap.size w w'
set_option maxHeartbeats 4000000 in
theorem drawFls_any (R : Nat) (bs : List Int) (p : Nat) (n : Int) (w : World) (h : RdAt R bs w p) (hp : p ≤ 800000) (hn : n ≤ 1000000) (hn' : -1000000 ≤ n) :
    Calls Tryd.prog 45 #[.pointer (some ⟨R, 0, none⟩), .int .i64 n] w (DrawnFls R bs p w) := by
  have hR := h.lt
  go_enter Tryd.func45, Tryd.ntmps45
  go_wp2_with fail
  refine (pick_any R bs p _ _ (h.below ((Below.refl _ _).alloc (Nat.le_refl _) _)) (by omega) (by omega)).mono ?_
  rintro e w1 ⟨x1, rfl, a1, b1, -, hr1, hm1⟩
  have hz1 := hm1.size; simp at hz1
  have hq1 : Mv R w.heap.size w w1 := ((Mv.refl _ _ _).alloc (Nat.le_refl _) _).trans (hm1.mono (by simp))
  have hown1 : OwnFl w.heap.size w1 (.slice (some ⟨w.heap.size, 0, none⟩) 0 0) [] := OwnSl.mv (by simpa using! World.ownsRow_made w #[] 0 (Nat.le_refl _) (by simp) (by simp)) hm1 hR
  go_wp2_with fail
  go_loopw [5, 6] (fun v i wr => ∃ ys k q, i = .int .i64 k ∧ k ≤ 6 ∧ 0 ≤ k ∧ OwnFl w.heap.size wr v ys ∧ ys.length ≤ 21 ∧ RdAt R bs wr q ∧ (q : Int) + 21 * k ≤ p + 150 ∧ Mv R w.heap.size w wr) (fun _ i _ => (intOf i).toNat)
  case atStart => exact ⟨[], x1, p + 1, rfl, by omega, a1, hown1, by simp, hr1, by omega, hq1⟩
  case round =>
    obtain ⟨ys, k, q, rfl, hk6, hk0, hown, hlen, hr, hq, hmr⟩ := hrel
    have hzr := hmr.size
    clear hown1 hr1 hm1 hq1 b1
    by_cases hk : 0 < k
    · go_wp2_with fail
      refine (drawPk_any R bs q 0 _ hr (by omega) (by omega) (by omega)).mono ?_
      rintro e w2 ⟨⟨a, b, c, d⟩, q2, rfl, hr2, hq2, hm2⟩
      have hz2 := hm2.size
      go_wp2_with fail
      refine (pick_any R bs q2 _ _ hr2 (by omega) (by omega)).mono ?_
      rintro e w3 ⟨x3, rfl, a3, b3, -, hr3, hm3⟩
      have hz3 := hm3.size
      have hown3 : OwnFl w.heap.size w3 _ ys := OwnSl.mv (OwnSl.mv hown hm2 hR) hm3 hR
      have b3' := b3 (by omega)
      have hmq : Mv R w.heap.size w w3 := (hmr.trans (hm2.mono hzr)).trans (hm3.mono (by omega))
      clear hown hr hm2 hr2 hm3 hmr b3
      go_wp2_with fail
      refine (specTF_any ys _ a b c d 0 x3 _ hown3.fls (by omega) (by omega) (by omega) (by omega)).mono ?_
      rintro e w4 ⟨v4, zs, b4, rfl, ho4, hl4, hb4⟩
      have hz4 := hb4.size
      have ho4' : OwnFl w.heap.size w4 v4 zs := OwnSl.mono ho4 (by omega)
      have hr4 := hr3.below hb4
      have hm4 : Mv R w.heap.size w w4 := hmq.trans (Mv.of_below (hb4.mono (by omega)))
      clear ho4 hown3 hmq hr3
      go_wp2_with fail
      go_roundw
      case rel => exact ⟨zs, k - 1, q2 + 1, by go_num, by omega, by omega, ho4', hl4, hr4, by omega, hm4⟩
      case measure => simp [intOf]; omega
    · obtain rfl : k = 0 := by omega
      go_wp2_with fail
      refine (odd_any R bs q 14 _ hr (by omega) (by omega) (by omega)).mono ?_
      rintro e w2 ⟨x2, q2, rfl, hr2, hq2, hm2⟩
      have hz2 := hm2.size
      have hown2 : OwnFl w.heap.size w2 _ ys := OwnSl.mv hown hm2 hR
      have hmq : Mv R w.heap.size w w2 := hmr.trans (hm2.mono hzr)
      have hzq := hmq.size
      clear hown hr hm2 hmr
      obtain ⟨i0, hi, hy0, hy1, hy2⟩ := info_parts infoFl
      go_upto_if 25 with (fail)
      go_cut [5] (fun v wx => FlSt R bs (p + 151) w v wx)
      case first =>
        cases x2
        · go_wp2_with fail
          go_meet
          exact ⟨ys, q2, hown2, hlen, hr2, by omega, hmq⟩
        · go_wp2_with fail
          go_loopw [5, 7] (fun v i wr => ∃ ys, ∃ k : Nat, i = .int .i64 k ∧ k ≤ ys.length ∧ OwnFl w.heap.size wr v ys ∧ ys.length ≤ 21 ∧ RdAt R bs wr q2 ∧ Mv R w.heap.size w wr) (fun _ i _ => 25 - (intOf i).toNat)
          case atStart => exact ⟨ys, 0, rfl, by omega, hown2, hlen, hr2, hmq⟩
          case round =>
            clear hown2 hr2 hmq
            obtain ⟨ys, k, rfl, hk, hown, hlen, hr2, hmq⟩ := hrel
            have hzq := hmq.size
            obtain ⟨sa, cap, rfl, hlc, hcm, -⟩ := OwnFl.fls hown
            unfold maxLen at hcm
            by_cases hlt : ys.length < 20
            · have HO := Lib.hid hown; clear hown
              go_wp2_with (at_builtin; refine wpList_append_own _ rfl _ _ 37 rfl w.heap.size 45 i0 _ 5 40 Tryd.underlying37 hi hy0 hy1 hy2 rfl (by decide) _ _ _ rfl (World.ownsRow.alloc HO.out _) ⟨wr.heap.size, 0, none⟩ 1 1 (Fl.enc ⟨⟨1000 + k, 0, 0, 0⟩, 30⟩) rfl rfl ?c1 ?c2 ?c3 ?c4 ?c5 ?_)
              case c1 => exact cellsNew wr (Fl.enc ⟨⟨1000 + k, 0, 0, 0⟩, 30⟩) _
              case c2 => simp [Value.oneCell']
              case c3 => simp only [maxLen]; omega
              case c4 => omega
              case c5 => simp; omega
              · intro v' w5 hown5 hgrow5 _
                have hB5 : Below w.heap.size wr w5 := belGrown ((Below.refl _ _).alloc hzq _) (World.ownsRow.alloc HO.out _) hgrow5 (by simp; omega)
                have hr5 : RdAt R bs w5 q2 := hr2.up (hB5.mono (by omega))
                have hm5 : Mv R w.heap.size w w5 := hmq.trans (Mv.of_below hB5)
                have HO5 := Lib.hid (OwnSl.pushed rfl hown5)
                clear hown5 hgrow5
                go_wp2
                go_roundw
                case rel => exact ⟨_, k + 1, by go_num, by simp; omega, HO5.out, by simp; omega, hr5, hm5⟩
                case measure => simp [intOf]; omega
            · go_wp2_with fail
              go_meet
              exact ⟨ys, q2, hown, hlen, hr2, by omega, hmq⟩
      case rest =>
        clear hown2 hr2 hmq
        obtain ⟨ys, q3, hown, hlen, hr, hq3, hmr⟩ := hcut
        have hzr := hmr.size
        go_wp2_with fail
        refine (odd_any R bs q3 n _ hr (by omega) (by omega) (by omega)).mono ?_
        rintro e w2 ⟨x2, q2, rfl, hr2, hq2, hm2⟩
        have hz2 := hm2.size
        have hown2 := OwnSl.mv hown hm2 hR
        have hmq : Mv R w.heap.size w w2 := hmr.trans (hm2.mono hzr)
        have hzq := hmq.size
        clear hown hr hm2 hmr
        cases x2
        · go_wp2_with fail
          go_ret
          exact ⟨_, ys, q2, rfl, hown2, by omega, hr2, by omega, hmq⟩
        · go_wp2_with fail
          refine (pick_any R bs _ _ _ hr2 (by omega) (by omega)).mono ?_
          rintro e w3 ⟨x3, rfl, a3, b3, -, hr3, hm3⟩
          have b3' := b3 (by omega)
          have hz3 := hm3.size
          have hown3 := OwnSl.mv hown2 hm3 hR
          have hm3' : Mv R w.heap.size w w3 := hmq.trans (hm3.mono hzq)
          clear hown2 hr2 hm3 hmq b3
          obtain ⟨sa, cap, hsv, hlc, hcm, -⟩ := OwnFl.fls hown3
          unfold maxLen at hcm
          subst hsv
          obtain rfl | rfl | rfl | rfl : x3 = 0 ∨ x3 = 1 ∨ x3 = 2 ∨ x3 = 3 := by omega
          · go_wp2_with fail
            refine (drawPk_any R bs _ 1 _ hr3 (by omega) (by omega) (by omega)).mono ?_
            rintro e w4 ⟨⟨a, b, c, d⟩, q4, rfl, hr4, hq4, hm4⟩
            have hz4 := hm4.size
            have HO := Lib.hid (OwnSl.mv hown3 hm4 hR)
            have hm4' : Mv R w.heap.size w w4 := hm3'.trans (hm4.mono (by omega))
            clear hown3 hr3 hm4
            go_wp2_with (at_builtin; refine wpList_append_own _ rfl _ _ 37 rfl w.heap.size 45 i0 _ 5 40 Tryd.underlying37 hi hy0 hy1 hy2 rfl (by decide) _ _ _ rfl (World.ownsRow.alloc HO.out _) ⟨w4.heap.size, 0, none⟩ 1 1 (Fl.enc ⟨⟨a, b, c, d⟩, 0⟩) rfl rfl ?c1 ?c2 ?c3 ?c4 ?c5 ?_)
            case c1 => exact cellsNew w4 (Fl.enc ⟨⟨a, b, c, d⟩, 0⟩) _
            case c2 => simp [Value.oneCell']
            case c3 => simp only [maxLen]; omega
            case c4 => omega
            case c5 => simp; omega
            · intro v' w5 hown5 hgrow5 _
              have hB5 : Below w.heap.size w4 w5 := belGrown ((Below.refl _ _).alloc (by omega) _) (World.ownsRow.alloc HO.out _) hgrow5 (by simp; omega)
              have hr5 := hr4.up (hB5.mono (by omega))
              have hm5 := hm4'.trans (Mv.of_below hB5)
              have HO5 : OwnFl w.heap.size w5 v' (ys ++ [⟨⟨a, b, c, d⟩, 0⟩]) := OwnSl.pushed rfl hown5
              clear hown5 hgrow5
              go_wp2
              go_ret
              exact ⟨v', _, _, rfl, HO5, by simp; omega, hr5, by omega, hm5⟩
          · go_wp2_with fail
            refine (pick_any R bs _ _ _ (hr3.below ((Below.refl _ _).alloc (Nat.le_refl _) _)) (by omega) (by omega)).mono ?_
            rintro e w4 ⟨x4, rfl, a4, b4, -, hr4, hm4⟩
            have b4' := b4 (by omega)
            have hz4 := hm4.size
            simp at hz4
            have kn := mvNew hm4 (by simp) (by omega)
            have k0 := kn 0
            have k1 := kn 1
            simp at k0 k1
            have HO := Lib.hid (OwnSl.mv (OwnSl.kept hown3 ((Below.refl _ _).alloc (Nat.le_refl _) _)) hm4 hR)
            have hm4' : Mv R w.heap.size w w4 := (hm3'.alloc (by omega) _).trans (hm4.mono (by simp; omega))
            clear hown3 hr3 hm4 kn b4
            obtain rfl | rfl : x4 = 0 ∨ x4 = 1 := by omega
            · go_wp2_with (at_builtin; refine wpList_append_own _ rfl _ _ 37 rfl w.heap.size 45 i0 _ 5 40 Tryd.underlying37 hi hy0 hy1 hy2 rfl (by decide) _ _ _ rfl (World.ownsRow.alloc HO.out _) ⟨w4.heap.size, 0, none⟩ 1 1 (Fl.enc ⟨⟨7777, 0, 0, 0⟩, -1⟩) rfl rfl ?c1 ?c2 ?c3 ?c4 ?c5 ?_)
              case c1 => exact cellsNew w4 (Fl.enc ⟨⟨7777, 0, 0, 0⟩, -1⟩) _
              case c2 => simp [Value.oneCell']
              case c3 => simp only [maxLen]; omega
              case c4 => omega
              case c5 => simp; omega
              · intro v' w5 hown5 hgrow5 _
                have hB5 : Below w.heap.size w4 w5 := belGrown ((Below.refl _ _).alloc (by omega) _) (World.ownsRow.alloc HO.out _) hgrow5 (by simp; omega)
                have hr5 := hr4.up (hB5.mono (by omega))
                have hm5 := hm4'.trans (Mv.of_below hB5)
                have HO5 : OwnFl w.heap.size w5 v' (ys ++ [⟨⟨7777, 0, 0, 0⟩, -1⟩]) := OwnSl.pushed rfl hown5
                clear hown5 hgrow5
                go_wp2
                go_ret
                exact ⟨v', _, _, rfl, HO5, by simp; omega, hr5, by omega, hm5⟩
            · go_wp2_with (at_builtin; refine wpList_append_own _ rfl _ _ 37 rfl w.heap.size 45 i0 _ 5 40 Tryd.underlying37 hi hy0 hy1 hy2 rfl (by decide) _ _ _ rfl (World.ownsRow.alloc HO.out _) ⟨w4.heap.size, 0, none⟩ 1 1 (Fl.enc ⟨⟨7777, 0, 0, 0⟩, 1000001⟩) rfl rfl ?c1 ?c2 ?c3 ?c4 ?c5 ?_)
              case c1 => exact cellsNew w4 (Fl.enc ⟨⟨7777, 0, 0, 0⟩, 1000001⟩) _
              case c2 => simp [Value.oneCell']
              case c3 => simp only [maxLen]; omega
              case c4 => omega
              case c5 => simp; omega
              · intro v' w5 hown5 hgrow5 _
                have hB5 : Below w.heap.size w4 w5 := belGrown ((Below.refl _ _).alloc (by omega) _) (World.ownsRow.alloc HO.out _) hgrow5 (by simp; omega)
                have hr5 := hr4.up (hB5.mono (by omega))
                have hm5 := hm4'.trans (Mv.of_below hB5)
                have HO5 : OwnFl w.heap.size w5 v' (ys ++ [⟨⟨7777, 0, 0, 0⟩, 1000001⟩]) := OwnSl.pushed rfl hown5
                clear hown5 hgrow5
                go_wp2
                go_ret
                exact ⟨v', _, _, rfl, HO5, by simp; omega, hr5, by omega, hm5⟩
          · have HO := Lib.hid hown3
            go_wp2_with (at_builtin; refine wpList_append_own _ rfl _ _ 37 rfl w.heap.size 45 i0 _ 5 40 Tryd.underlying37 hi hy0 hy1 hy2 rfl (by decide) _ _ _ rfl (World.ownsRow.alloc HO.out _) ⟨w3.heap.size, 0, none⟩ 2 2 (Fl.enc ⟨⟨5, 6, 0, 0⟩, 0⟩ ++ Fl.enc ⟨⟨6, 5, 0, 0⟩, 0⟩) rfl rfl ?c1 ?c2 ?c3 ?c4 ?c5 ?_)
            case c1 => exact cellsNew w3 (Fl.enc ⟨⟨5, 6, 0, 0⟩, 0⟩ ++ Fl.enc ⟨⟨6, 5, 0, 0⟩, 0⟩) _
            case c2 => simp [Value.oneCell']
            case c3 => simp only [maxLen]; omega
            case c4 => omega
            case c5 => simp; omega
            · intro v' w5 hown5 hgrow5 _
              have hB5 : Below w.heap.size w3 w5 := belGrown ((Below.refl _ _).alloc (by omega) _) (World.ownsRow.alloc HO.out _) hgrow5 (by simp; omega)
              have hr5 := hr3.up (hB5.mono (by omega))
              have hm5 := hm3'.trans (Mv.of_below hB5)
              have HO5 : OwnFl w.heap.size w5 v' (ys ++ [⟨⟨5, 6, 0, 0⟩, 0⟩, ⟨⟨6, 5, 0, 0⟩, 0⟩]) := by unfold OwnFl OwnSl; simpa using! hown5
              clear hown5 hgrow5
              go_wp2
              go_ret
              exact ⟨v', _, _, rfl, HO5, by simp; omega, hr5, by omega, hm5⟩
          · go_wp2_with (at_make; refine wpList_make_full _ rfl _ _ 37 rfl w.heap.size 45 i0 _ 5 Tryd.underlying37 hi hy0 hy1 _ _ _ _ 21 rfl rfl rfl rfl ?b1 ?b2 ?b3 ?_)
            case b1 => rw [hy2]; omega
            case b2 => simp only [maxLen]; omega
            case b3 => omega
            intro w5 hown5 hgrow5
            have hB5 : Below w.heap.size w3 w5 := (Below.refl _ _).grown hgrow5 (by omega) (fun k hk => by cases hk)
            have HO5 : OwnFl w.heap.size w5 (.slice (some ⟨w3.heap.size, 0, none⟩) 21 21) (List.replicate 21 (⟨⟨0, 0, 0, 0⟩, 0⟩ : Fl)) := by
              unfold OwnFl OwnSl
              rw [List.length_replicate, ← madeFlat (sz := 5) (enc := Fl.enc) (fun _ => rfl) (by omega) (.agg #[.int .i64 0, .int .i64 0, .int .i64 0, .int .i64 0, .int .i64 0]) ⟨⟨0, 0, 0, 0⟩, 0⟩ rfl]
              exact hown5
            have hr5 := hr3.up (hB5.mono (by omega))
            have hm5 := hm3'.trans (Mv.of_below hB5)
            clear hown5 hgrow5
            go_wp2
            go_ret
            exact ⟨_, _, _, rfl, HO5, by simp, hr5, by omega, hm5⟩
end Go.Proofs.YtlppchkilinpfaaDoor
