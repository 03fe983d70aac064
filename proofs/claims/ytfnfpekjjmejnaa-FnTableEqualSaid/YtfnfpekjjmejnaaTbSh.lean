/- TableFind and TableShrink: the program's and the reference's. -/
import Derived.Test.YtfnfpekjjmejnaaTbO
import Derived.Test.YtfnfpekjjmejnaaTbL
namespace Go.Proofs.Ytfnfpekjjmejnaa
open Go.RowKit
theorem full_ok {a : Nat} (ha : a ≤ 65535) : Pf.ok ⟨(a : Int), 16⟩ = true := by
  rw [pf_ok_iff]
  refine ⟨⟨by simp, by simp⟩, ⟨by simp, by simp; omega⟩, ?_⟩
  simp [pwr, Int.emod_one]
theorem tfind_best {xs : List En} (hv : tvalid xs = true) {a : Nat} (ha : a ≤ 65535) : tfind xs a = best (valsOf xs) a 17 := by
  obtain ⟨_, hg⟩ := (tvalid_iff xs).1 hv
  have hu : inB (a : Int) 0 65535 = true := inB_true (by omega) (by omega)
  rw [tfind, hv, hu]
  simp only [Bool.and_self, if_true]
  refine (best_find hg (p := ⟨a, 16⟩) (ex := -1) (by omega) (fun i x hx => ?_) (sf_ok xs _ _ _ (Nat.le_refl _))).symm
  have hxo := (en_ok (tgood_ok hg hx)).1
  rw [within_path (full_ok ha) hxo]
  obtain ⟨⟨h0, h1⟩, _⟩ := (pf_ok_iff _).1 hxo
  simp only [Int.toNat_natCast, En.path]
  constructor
  · rintro ⟨_, _, h⟩; exact ⟨by omega, h⟩
  · rintro ⟨_, h⟩; exact ⟨by omega, by omega, h⟩
theorem shr_best {xs : List En} (hv : tvalid xs = true) {k : Nat} {e : En} (hx : xs[k]? = some e) : valAt xs (sf xs e.w k xs.length) = best (valsOf xs) e.w.b.toNat e.w.l.toNat := by
  obtain ⟨_, hg⟩ := (tvalid_iff xs).1 hv
  have heo := (en_ok (tgood_ok hg hx)).1
  obtain ⟨⟨e0, e1⟩, _⟩ := (pf_ok_iff _).1 heo
  refine (best_find hg (p := e.w) (ex := k) (by omega) (fun i x hi => ?_) (sf_ok xs _ _ _ (Nat.le_refl _))).symm
  have hxo := (en_ok (tgood_ok hg hi)).1
  rw [within_path heo hxo]
  obtain ⟨⟨h0, h1⟩, _⟩ := (pf_ok_iff _).1 hxo
  simp only [En.path]
  constructor
  · rintro ⟨h2, h3, h4⟩
    refine ⟨?_, h4⟩
    rcases (by omega : x.w.l.toNat < e.w.l.toNat ∨ x.w.l = e.w.l) with h | h
    · exact h
    · rw [h] at h4
      exact absurd (tgood_inj hg hi hx (path_inj hxo heo (by rw [h]; exact h4))) (by omega)
  · rintro ⟨h2, h3⟩
    refine ⟨fun h => ?_, by omega, h3⟩
    have : i = k := by omega
    subst this
    rw [hx] at hi
    cases hi
    omega
/-- What TableShrink keeps of the first k entries. -/
def shr (xs : List En) : Nat → List En
  | 0 => []
  | k + 1 => match xs[k]? with
    | none => shr xs k
    | some e => if valAt xs (sf xs e.w k xs.length) = e.v then shr xs k else shr xs k ++ [e]
def tshrink (xs : List En) : List En := if tvalid xs then shr xs xs.length else []
theorem shr_len (xs : List En) : ∀ k, (shr xs k).length ≤ k
  | 0 => by simp [shr]
  | k + 1 => by
    have := shr_len xs k
    simp only [shr]
    split
    · omega
    · split
      · omega
      · simp; omega
theorem shr_keep {xs : List En} {k : Nat} {e : En} (hx : xs[k]? = some e) {n : Nat} (hn : xs.length = n) (h : valAt xs (sf xs e.w k n) ≠ e.v) : shr xs (k + 1) = shr xs k ++ [e] := by
  subst hn
  simp only [shr, hx]
  rw [if_neg h]
theorem shr_drop {xs : List En} {k : Nat} {e : En} (hx : xs[k]? = some e) {n : Nat} (hn : xs.length = n) (h : valAt xs (sf xs e.w k n) = e.v) : shr xs (k + 1) = shr xs k := by
  subst hn
  simp only [shr, hx]
  rw [if_pos h]
set_option maxHeartbeats 1000000 in
theorem implTF_any (xs : List En) (v : Value) (a : Int) (w : World) (hs : Ens w v xs) :
    Calls Try.prog 23 #[v, .int .i64 a] w fun e w' => e = .returned (.int .i64 (tfind xs a)) ∧ Below w.heap.size w w' := by
  cases hv : tvalid xs
  · have HT := Lib.hid (show tfind xs a = -1 by simp [tfind, hv])
    rw [HT.out]
    go_enter Try.func23, Try.ntmps23
    
    go_wp2_with fail; refine (implTV_b hs hv).mono ?_; rintro e w1 ⟨rfl, hb1⟩; obtain ⟨hc1, hf1⟩ := bcell hb1; have hz1 := hb1.size; (try simp at hz1); (try have hz1_w_0 : w.heap.size < w1.heap.size := (by omega)); (try have hz1_w_1 : w.heap.size + 1 < w1.heap.size := (by omega)); (try have hz1_w_2 : w.heap.size + 2 < w1.heap.size := (by omega))
    go_wp2
    go_ret
    exact ⟨rfl, by (repeat' (first | with_reducible exact Below.refl _ _ | with_reducible assumption | with_reducible refine Below.setCell ?_ ?_ _ | with_reducible refine Below.alloc ?_ ?_ _ | with_reducible refine Below.drew ?_ | with_reducible refine belDrewN ?_ _ | with_reducible refine Below.trans ?_ (Below.mono (by assumption) ?_) | omega | (simp; omega) | (simp; done)))⟩
  · by_cases h0 : a < 0
    · have HT := Lib.hid (show tfind xs a = -1 by simp [tfind, inB_lo h0])
      rw [HT.out]
      go_enter Try.func23, Try.ntmps23
      
      go_wp2_with fail; refine (implTV_b hs hv).mono ?_; rintro e w1 ⟨rfl, hb1⟩; obtain ⟨hc1, hf1⟩ := bcell hb1; have hz1 := hb1.size; (try simp at hz1); (try have hz1_w_0 : w.heap.size < w1.heap.size := (by omega)); (try have hz1_w_1 : w.heap.size + 1 < w1.heap.size := (by omega)); (try have hz1_w_2 : w.heap.size + 2 < w1.heap.size := (by omega))
      go_wp2
      go_ret
      exact ⟨rfl, by (repeat' (first | with_reducible exact Below.refl _ _ | with_reducible assumption | with_reducible refine Below.setCell ?_ ?_ _ | with_reducible refine Below.alloc ?_ ?_ _ | with_reducible refine Below.drew ?_ | with_reducible refine belDrewN ?_ _ | with_reducible refine Below.trans ?_ (Below.mono (by assumption) ?_) | omega | (simp; omega) | (simp; done)))⟩
    · by_cases h1 : 65535 < a
      · have HT := Lib.hid (show tfind xs a = -1 by simp [tfind, inB_hi h1])
        rw [HT.out]
        go_enter Try.func23, Try.ntmps23
        
        go_wp2_with fail; refine (implTV_b hs hv).mono ?_; rintro e w1 ⟨rfl, hb1⟩; obtain ⟨hc1, hf1⟩ := bcell hb1; have hz1 := hb1.size; (try simp at hz1); (try have hz1_w_0 : w.heap.size < w1.heap.size := (by omega)); (try have hz1_w_1 : w.heap.size + 1 < w1.heap.size := (by omega)); (try have hz1_w_2 : w.heap.size + 2 < w1.heap.size := (by omega))
        go_wp2
        go_ret
        exact ⟨rfl, by (repeat' (first | with_reducible exact Below.refl _ _ | with_reducible assumption | with_reducible refine Below.setCell ?_ ?_ _ | with_reducible refine Below.alloc ?_ ?_ _ | with_reducible refine Below.drew ?_ | with_reducible refine belDrewN ?_ _ | with_reducible refine Below.trans ?_ (Below.mono (by assumption) ?_) | omega | (simp; omega) | (simp; done)))⟩
      · obtain ⟨n, rfl⟩ := Int.eq_ofNat_of_zero_le (by omega : 0 ≤ a)
        have HT := Lib.hid (tfind_best hv (show n ≤ 65535 by omega))
        rw [HT.out]
        have HV := Lib.hid hv
        go_enter Try.func23, Try.ntmps23
        
        go_wp2_with fail; refine (implTV_b hs hv).mono ?_; rintro e w1 ⟨rfl, hb1⟩; obtain ⟨hc1, hf1⟩ := bcell hb1; have hz1 := hb1.size; (try simp at hz1); (try have hz1_w_0 : w.heap.size < w1.heap.size := (by omega)); (try have hz1_w_1 : w.heap.size + 1 < w1.heap.size := (by omega)); (try have hz1_w_2 : w.heap.size + 2 < w1.heap.size := (by omega))
        go_wp2_with fail
        refine (trieOf_any xs _ _ (hs.below hb1) HV.out).mono ?_
        rintro e w2 ⟨v2, ps, rfl, hwf, ho, hb2⟩
        have hz2 := hb2.size
        have hnd := OwnNd.nds ho
        have HW := Lib.hid hwf
        clear ho hwf
        go_wp2_with fail
        refine (trieFind_any ps _ HW.out v2 n (by omega) 16 (by omega) (by omega) _ hnd).mono ?_
        rintro e w3 ⟨rfl, hb3⟩
        have hz3 := hb3.size
        go_wp2_with fail
        go_ret
        exact ⟨rfl, by (repeat' (first | with_reducible exact Below.refl _ _ | with_reducible assumption | with_reducible refine Below.setCell ?_ ?_ _ | with_reducible refine Below.alloc ?_ ?_ _ | with_reducible refine Below.drew ?_ | with_reducible refine belDrewN ?_ _ | with_reducible refine Below.trans ?_ (Below.mono (by assumption) ?_) | omega | (simp; omega) | (simp; done)))⟩
set_option maxHeartbeats 2000000 in
theorem specTS_any (xs : List En) (v : Value) (w : World) (hs : Ens w v xs) :
    Calls Try.prog 29 #[v] w (RetEn (tshrink xs) w) := by
  obtain ⟨a, cap, rfl, hlc, hcm, -⟩ := id hs
  unfold maxLen at hcm
  generalize hn : xs.length = n at *
  have HN := Lib.hid hn
  clear hn
  cases hv : tvalid xs
  · have HT := Lib.hid (show tshrink xs = [] by simp [tshrink, hv])
    rw [HT.out]
    go_enter Try.func29, Try.ntmps29
    go_wp2_with fail
    go_loopw [3, 4] (fun v i wr => i = .int .i64 0 ∧ OwnEn w.heap.size wr v [] ∧ Below w.heap.size w wr) (fun _ _ _ => 0)
    case atStart => exact ⟨rfl, by simpa using! World.ownsRow_made w #[] 0 (Nat.le_refl _) (by simp) (by simp), by (repeat' (first | with_reducible exact Below.refl _ _ | with_reducible assumption | with_reducible refine Below.setCell ?_ ?_ _ | with_reducible refine Below.alloc ?_ ?_ _ | with_reducible refine Below.drew ?_ | with_reducible refine belDrewN ?_ _ | with_reducible refine Below.trans ?_ (Below.mono (by assumption) ?_) | omega | (simp; omega) | (simp; done)))⟩
    case round =>
      obtain ⟨rfl, hown, hbr⟩ := hrel
      have HO := Lib.hid hown; clear hown
      have hs2 := Lib.hid (hs.below hbr)
      have hzr := hbr.size
      by_cases h0 : n = 0
      · subst h0
        go_wp2
        go_ret
        exact ⟨_, rfl, HO.out, hbr⟩
      · have i1 : (0 : Int) < (n : Int) := by omega
        have i1' : decide (0 < n) = true := by simp; omega
        go_wp2_with fail
        refine (specTV_b hs2.out hv).mono ?_
        rintro e w1 ⟨rfl, hb1⟩
        go_wp2
        go_ret
        exact ⟨_, rfl, OwnSl.kept HO.out hb1, hbr.trans (hb1.mono hzr)⟩
  · have HT := Lib.hid (show tshrink xs = shr xs n by simp [tshrink, hv, HN.out])
    rw [HT.out]
    have h30 := ((tvalid_iff xs).1 hv).1
    rw [HN.out] at h30
    go_enter Try.func29, Try.ntmps29
    go_wp2_with fail
    go_loopw [3, 4] (fun v i wr => ∃ k : Nat, k ≤ n ∧ i = .int .i64 k ∧ OwnEn w.heap.size wr v (shr xs k) ∧ Below w.heap.size w wr) (fun _ i _ => n - (intOf i).toNat)
    case atStart => exact ⟨0, by omega, rfl, by simpa using! World.ownsRow_made w #[] 0 (Nat.le_refl _) (by simp) (by simp), by (repeat' (first | with_reducible exact Below.refl _ _ | with_reducible assumption | with_reducible refine Below.setCell ?_ ?_ _ | with_reducible refine Below.alloc ?_ ?_ _ | with_reducible refine Below.drew ?_ | with_reducible refine belDrewN ?_ _ | with_reducible refine Below.trans ?_ (Below.mono (by assumption) ?_) | omega | (simp; omega) | (simp; done)))⟩
    case round =>
      obtain ⟨k, hk, rfl, hown, hbr⟩ := hrel
      have HO := Lib.hid hown; clear hown
      have hs2 := Lib.hid (hs.below hbr)
      have hzr := hbr.size
      by_cases hlt : k < n
      · obtain ⟨b, o, f1, f2, f3, rfl, hbl, hx, c0, c1, c2⟩ := hs2.out.at (show k < xs.length by rw [HN.out]; exact hlt)
        have HX := Lib.hid hx; clear hx
        have i1 : (k : Int) < (n : Int) := by omega
        have i2 : (0 : Int) ≤ (k : Int) := by omega
        have hlen := shr_len xs k
        have hok := sf_ok xs ⟨f1, f2⟩ k n (by rw [HN.out]; exact Nat.le_refl _)
        generalize hr : sf xs ⟨f1, f2⟩ k n = r at *
        have HR := Lib.hid hr
        have HVL := Lib.hid hv
        obtain ⟨i0, hi, hz0, hz1, hz2⟩ := info_parts infoEn
        clear hr
        go_wp2_with fail
        refine (specTV_b hs2.out hv).mono ?_
        rintro e w1 ⟨rfl, hb1⟩
        have hzz1 := hb1.size
        have hs3 := Lib.hid (hs2.out.below hb1)
        obtain ⟨-, c0', c1', c2'⟩ := hs3.out.get HX.out
        clear c0 c1 c2
        go_wp2_with fail
        refine (l18Find_any xs _ f1 f2 k _ hs3.out).mono ?_
        rw [HN.out, HR.out]
        rintro e w2 ⟨rfl, hb2⟩
        have hzz2 := hb2.size
        have hs4 := Lib.hid (hs3.out.below hb2)
        obtain ⟨hbl2, c0, c1, c2⟩ := hs4.out.get HX.out
        have hq2 : Below wr.heap.size wr w2 := hb1.trans (hb2.mono hzz1)
        have hw2 : Below w.heap.size w w2 := hbr.trans (hq2.mono hzr)
        clear c0' c1' c2' hb1 hb2 hbr
        rcases hok with ⟨rfl, -⟩ | ⟨j, y, h1, rfl, -, h4, -, -⟩
        · have hne : valAt xs (-1) ≠ f3 := by
            have hf := (en_ok (tgood_ok ((tvalid_iff xs).1 HVL.out).2 HX.out)).2.1
            simp only [valAt] at *
            simp
            omega
          have HS := Lib.hid (shr_keep HX.out HN.out (by rw [HR.out]; exact hne))
          clear hne
          go_wp2_with fail
          refine wp_region_over (by kernel_rfl) (by kernel_rfl) (fun ov => ?_); have ov0 := fun x => ov x (b) (by (try simp) <;> omega); clear ov; (repeat (go_big_quiet_step (first | fail))); refine wpQuiet_nil ?_; intro w9 hw9; have hb_w9 := below_over hw9; clear hw9 ov0
          have hq9 : Below wr.heap.size wr w9 := hq2.trans (hb_w9.mono hq2.size)
          have hw9 : Below w.heap.size w w9 := hw2.trans (hb_w9.mono hw2.size)
          have hz9 := hw9.size
          have kb := ownCells hb_w9 b (by omega)
          clear hb_w9 hq2 hw2
          go_wp2_with (at_builtin; refine wpList_append_own _ rfl _ _ 25 rfl w.heap.size 35 i0 _ 3 24 Try.underlying25 hi hz0 hz1 hz2 rfl (by decide) _ _ _ rfl (World.ownsRow.alloc (OwnSl.kept HO.out hq9) _) ⟨w9.heap.size, 0, none⟩ 1 1 (En.enc ⟨⟨f1, f2⟩, f3⟩) rfl rfl ?c1 ?c2 ?c3 ?c4 ?c5 ?_)
          case c1 => exact cellsNew w9 (En.enc ⟨⟨f1, f2⟩, f3⟩) _
          case c2 => simp [Value.oneCell']
          case c3 => simp only [maxLen]; omega
          case c4 => omega
          case c5 => simp; omega
          intro v' w3 hown3 hgrow3 _
          have hB := belGrown (hw9.alloc (by omega) _) (World.ownsRow.alloc (OwnSl.kept HO.out hq9) _) hgrow3 (by simp; omega)
          have HO3 := Lib.hid (OwnSl.pushed rfl hown3)
          clear hown3 hgrow3
          go_wp2
          go_roundw
          case rel => exact ⟨k + 1, by omega, by go_num, by rw [HS.out]; exact HO3.out, hB⟩
          case measure => simp [intOf]; omega
        · obtain ⟨⟨e1, e2⟩, e3⟩ := y
          obtain ⟨-, d0, d1, d2⟩ := hs4.out.get h4
          have HVA := Lib.hid (show valAt xs (j : Int) = e3 by simp [valAt, h4]; omega)
          clear h4
          have i3 : (j : Int) < (n : Int) := by omega
          have i4 : (0 : Int) ≤ (j : Int) := by omega
          have i5 : decide ((j : Int) < 0) = false := by simp
          by_cases heq : e3 = f3
          · have HS := Lib.hid (shr_drop HX.out HN.out (by rw [HR.out, HVA.out]; exact heq))
            have g1 : (e3 == f3) = true := by simpa using heq
            have g2 : (e3 != f3) = false := by simpa using heq
            clear heq
            go_wp2_with fail
            refine wp_region_over (by kernel_rfl) (by kernel_rfl) (fun ov => ?_); have ov0 := fun x => ov x (b) (by (try simp) <;> omega); clear ov; (repeat (go_big_quiet_step (first | fail))); refine wpQuiet_nil ?_; intro w9 hw9; have hb_w9 := below_over hw9; clear hw9 ov0
            have hq9 : Below wr.heap.size wr w9 := hq2.trans (hb_w9.mono hq2.size)
            have hw9 : Below w.heap.size w w9 := hw2.trans (hb_w9.mono hw2.size)
            clear hb_w9 hq2 hw2
            go_wp2
            go_roundw
            case rel => exact ⟨k + 1, by omega, by go_num, by rw [HS.out]; exact OwnSl.kept HO.out hq9, hw9⟩
            case measure => simp [intOf]; omega
          · have HS := Lib.hid (shr_keep HX.out HN.out (by rw [HR.out, HVA.out]; exact heq))
            have g1 : (e3 == f3) = false := by simpa using heq
            have g2 : (e3 != f3) = true := by simpa using heq
            clear heq
            go_wp2_with fail
            refine wp_region_over (by kernel_rfl) (by kernel_rfl) (fun ov => ?_); have ov0 := fun x => ov x (b) (by (try simp) <;> omega); clear ov; (repeat (go_big_quiet_step (first | fail))); refine wpQuiet_nil ?_; intro w9 hw9; have hb_w9 := below_over hw9; clear hw9 ov0
            have hq9 : Below wr.heap.size wr w9 := hq2.trans (hb_w9.mono hq2.size)
            have hw9 : Below w.heap.size w w9 := hw2.trans (hb_w9.mono hw2.size)
            have hz9 := hw9.size
            have kb := ownCells hb_w9 b (by omega)
            clear hb_w9 hq2 hw2
            go_wp2_with (at_builtin; refine wpList_append_own _ rfl _ _ 25 rfl w.heap.size 35 i0 _ 3 24 Try.underlying25 hi hz0 hz1 hz2 rfl (by decide) _ _ _ rfl (World.ownsRow.alloc (OwnSl.kept HO.out hq9) _) ⟨w9.heap.size, 0, none⟩ 1 1 (En.enc ⟨⟨f1, f2⟩, f3⟩) rfl rfl ?c1 ?c2 ?c3 ?c4 ?c5 ?_)
            case c1 => exact cellsNew w9 (En.enc ⟨⟨f1, f2⟩, f3⟩) _
            case c2 => simp [Value.oneCell']
            case c3 => simp only [maxLen]; omega
            case c4 => omega
            case c5 => simp; omega
            intro v' w3 hown3 hgrow3 _
            have hB := belGrown (hw9.alloc (by omega) _) (World.ownsRow.alloc (OwnSl.kept HO.out hq9) _) hgrow3 (by simp; omega)
            have HO3 := Lib.hid (OwnSl.pushed rfl hown3)
            clear hown3 hgrow3
            go_wp2
            go_roundw
            case rel => exact ⟨k + 1, by omega, by go_num, by rw [HS.out]; exact HO3.out, hB⟩
            case measure => simp [intOf]; omega
      · have HE := Lib.hid (show k = n by omega)
        go_wp2
        go_ret
        refine ⟨_, rfl, ?_, hbr⟩
        have := HO.out
        rwa [HE.out] at this
end Go.Proofs.Ytfnfpekjjmejnaa
