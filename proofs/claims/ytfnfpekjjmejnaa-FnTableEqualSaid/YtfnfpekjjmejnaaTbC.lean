/- The library's Clone and BinarySearchFunc at tables, and where an entry stands. -/
import Derived.Test.YtfnfpekjjmejnaaTbP
import Derived.Lib.SliceRun
namespace Go.Proofs.Ytfnfpekjjmejnaa
open Go.RowKit
theorem OwnEn.nil {base : Nat} {w : World} : OwnEn base w (.slice none 0 0) [] := ⟨by simp, .inl ⟨rfl, by simp⟩⟩
set_option maxHeartbeats 1000000 in
theorem clone_any (xs : List En) (v : Value) (w : World) (hs : Ens w v xs) (hl : xs.length ≤ 1000000) :
    Calls Try.prog 53 #[v] w (RetEn xs w) := by
  obtain ⟨a, cap, rfl, hlc, hcm, hx⟩ := id hs
  unfold maxLen at hcm
  have hq := Lib.run_eql_slice_nil (P := Try.prog) w 25 35 a xs.length cap 0 0 Try.underlying25
  cases a with
  | none =>
    have h0 : xs = [] := by
      cases xs with
      | nil => rfl
      | cons x xs => obtain ⟨b, o, h, _⟩ := hx 0 x rfl; cases h
    subst h0
    clear hx
    simp only [Option.isNone_none, List.length_nil] at hq ⊢
    clear hs hlc hl
    go_enter Try.func53, Try.ntmps53
    go_wp2
    go_ret
    exact ⟨_, rfl, OwnEn.nil, Below.refl _ _⟩
  | some ad =>
    simp only [Option.isNone_some] at hq
    obtain ⟨i0, hi, hy0, hy1, hy2⟩ := info_parts infoEn
    have hal : Below w.heap.size w (w.alloc (.cells #[] 35)) := (Below.refl _ _).alloc (Nat.le_refl _) _
    obtain ⟨v3, w3, hrun3, hown3, hb3⟩ := run_append_copy (sz := 3) (enc := En.enc) (by omega) (fun _ => rfl) (P := Try.prog) (w := w.alloc (.cells #[] 35)) 25 25 35 i0 _ 24 Try.underlying25 hi hy0 hy1 hy2 rfl (base := w.heap.size) ⟨w.heap.size, 0, none⟩ (OwnEn.lit (Nat.le_refl _)) (by simp) (hs.below hal) (by omega)
    have hq3 : Below w.heap.size w w3 := hal.trans (hb3.mono (by simp))
    have HO3 := Lib.hid hown3
    clear hown3 hb3 hal hx
    go_enter Try.func53, Try.ntmps53
    go_wp2_with (at_builtin; refine wpList_append_run rfl _ _ 25 rfl rfl rfl hrun3 ?_)
    go_ret
    exact ⟨_, rfl, HO3.out, hq3⟩
set_option maxHeartbeats 1000000 in
theorem cl_any (f1 f2 f3 p1 p2 : Int) (w : World) :
    Calls Try.prog 69 #[.agg #[.int .i64 f1, .int .i64 f2, .int .i64 f3], .agg #[.int .i64 p1, .int .i64 p2]] w fun e w' => e = .returned (.int .i64 (cmpP ⟨f1, f2⟩ ⟨p1, p2⟩)) ∧ Below w.heap.size w w' := by
  go_enter Try.func69, Try.ntmps69
  
  go_wp2_with fail; refine (cmpP_any f1 f2 p1 p2 _).mono ?_; rintro e w1 ⟨rfl, hb1⟩; obtain ⟨hc1, hf1⟩ := bcell hb1; have hz1 := hb1.size; (try simp at hz1); (try have hz1_w_0 : w.heap.size < w1.heap.size := (by omega)); (try have hz1_w_1 : w.heap.size + 1 < w1.heap.size := (by omega)); (try have hz1_w_2 : w.heap.size + 2 < w1.heap.size := (by omega))
  go_wp2
  go_ret
  exact ⟨rfl, by (repeat' (first | with_reducible exact Below.refl _ _ | with_reducible assumption | with_reducible refine Below.setCell ?_ ?_ _ | with_reducible refine Below.alloc ?_ ?_ _ | with_reducible refine Below.drew ?_ | with_reducible refine belDrewN ?_ _ | with_reducible refine Below.trans ?_ (Below.mono (by assumption) ?_) | omega | (simp; omega) | (simp; done)))⟩
end Go.Proofs.Ytfnfpekjjmejnaa
