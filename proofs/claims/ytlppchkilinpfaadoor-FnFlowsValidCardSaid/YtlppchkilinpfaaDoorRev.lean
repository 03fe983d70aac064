/- Reversing packets: the walks. -/
import Derived.Test.YtlppchkilinpfaaDoorPk
namespace Go.Proofs.YtlppchkilinpfaaDoor
open Go.RowKit
/-- ReversePacket's answer. -/
def Pk.revv (p : Pk) : Pk := if p.ok then p.rev else ⟨0, 0, 0, 0⟩
abbrev Pk.v (p : Pk) : Value := .agg #[.int .i64 p.from_, .int .i64 p.to_, .int .i64 p.port, .int .i64 p.proto]

set_option maxHeartbeats 400000 in
theorem specRev_any (a b c d : Int) (w : World) :
    Calls Tryd.prog 11 #[.agg #[.int .i64 a, .int .i64 b, .int .i64 c, .int .i64 d]] w fun e w' => e = .returned (Pk.v (Pk.revv ⟨a,b,c,d⟩)) ∧ Below w.heap.size w w' := by
  cases hok : Pk.ok ⟨a, b, c, d⟩
  · have hr : Pk.revv ⟨a,b,c,d⟩ = ⟨0,0,0,0⟩ := by simp [Pk.revv, hok]
    rw [hr]
    go_enter Tryd.func11, Tryd.ntmps11
    go_wp2_with (first | (go_at_call 16; refine (specPV_any _ _ _ _ _).mono ?_; rw [hok]; rintro e w1 ⟨rfl, hb⟩; obtain ⟨hc, hf⟩ := bcell hb; have hz := hb.size; (try simp at hz); have hzw_0 : w.heap.size < w1.heap.size := (by omega); have hzw_1 : w.heap.size + 1 < w1.heap.size := (by omega)))
    exact bodyPost_ret (v := Pk.v ⟨0, 0, 0, 0⟩) (by simp [results, Tryd.results11, go_sem, *]) rfl ⟨rfl, by (repeat' (first | with_reducible exact Below.refl _ _ | with_reducible assumption | with_reducible refine Below.setCell ?_ ?_ _ | with_reducible refine Below.alloc ?_ ?_ _ | with_reducible refine Below.drew ?_ | with_reducible refine belDrewN ?_ _ | with_reducible refine Below.trans ?_ (Below.mono (by assumption) ?_) | omega | (simp; omega) | (simp; done)))⟩
  · have hr : Pk.revv ⟨a,b,c,d⟩ = ⟨b,a,c,d⟩ := by simp [Pk.revv, Pk.rev, hok]
    rw [hr]
    go_enter Tryd.func11, Tryd.ntmps11
    go_wp2_with (first | (go_at_call 16; refine (specPV_any _ _ _ _ _).mono ?_; rw [hok]; rintro e w1 ⟨rfl, hb⟩; obtain ⟨hc, hf⟩ := bcell hb; have hz := hb.size; (try simp at hz); have hzw_0 : w.heap.size < w1.heap.size := (by omega); have hzw_1 : w.heap.size + 1 < w1.heap.size := (by omega)))
    exact bodyPost_ret (v := Pk.v ⟨b, a, c, d⟩) (by simp [results, Tryd.results11, go_sem, *]) rfl ⟨rfl, by (repeat' (first | with_reducible exact Below.refl _ _ | with_reducible assumption | with_reducible refine Below.setCell ?_ ?_ _ | with_reducible refine Below.alloc ?_ ?_ _ | with_reducible refine Below.drew ?_ | with_reducible refine belDrewN ?_ _ | with_reducible refine Below.trans ?_ (Below.mono (by assumption) ?_) | omega | (simp; omega) | (simp; done)))⟩

set_option maxHeartbeats 400000 in
theorem implRev_any (a b c d : Int) (w : World) (ht : Tab w) :
    Calls Tryd.prog 13 #[.agg #[.int .i64 a, .int .i64 b, .int .i64 c, .int .i64 d]] w fun e w' => e = .returned (Pk.v (Pk.revv ⟨a,b,c,d⟩)) ∧ Below w.heap.size w w' := by
  cases hok : Pk.ok ⟨a, b, c, d⟩
  · have hr : Pk.revv ⟨a,b,c,d⟩ = ⟨0,0,0,0⟩ := by simp [Pk.revv, hok]
    rw [hr]
    go_enter Tryd.func13, Tryd.ntmps13
    go_wp2_with (first | (go_at_call 33; refine (pv_any _ _ _ _ _ (ht.below (by (repeat' (first | with_reducible exact Below.refl _ _ | with_reducible assumption | with_reducible refine Below.setCell ?_ ?_ _ | with_reducible refine Below.alloc ?_ ?_ _ | with_reducible refine Below.drew ?_ | with_reducible refine belDrewN ?_ _ | with_reducible refine Below.trans ?_ (Below.mono (by assumption) ?_) | omega | (simp; omega) | (simp; done)))))).mono ?_; rw [hok]; rintro e w1 ⟨rfl, hb⟩; obtain ⟨hc, hf⟩ := bcell hb; have hz := hb.size; (try simp at hz); have hzw_0 : w.heap.size < w1.heap.size := (by omega); have hzw_1 : w.heap.size + 1 < w1.heap.size := (by omega)) | (go_at_call 34; refine (rev_any _ _ _ _ _).mono ?_; rintro e w1 ⟨rfl, hb⟩; obtain ⟨hc, hf⟩ := bcell hb; have hz := hb.size; (try simp at hz); have hzw_0 : w.heap.size < w1.heap.size := (by omega); have hzw_1 : w.heap.size + 1 < w1.heap.size := (by omega)))
    exact bodyPost_ret (v := Pk.v ⟨0, 0, 0, 0⟩) (by simp [results, Tryd.results13, go_sem, *]) rfl ⟨rfl, by (repeat' (first | with_reducible exact Below.refl _ _ | with_reducible assumption | with_reducible refine Below.setCell ?_ ?_ _ | with_reducible refine Below.alloc ?_ ?_ _ | with_reducible refine Below.drew ?_ | with_reducible refine belDrewN ?_ _ | with_reducible refine Below.trans ?_ (Below.mono (by assumption) ?_) | omega | (simp; omega) | (simp; done)))⟩
  · have hr : Pk.revv ⟨a,b,c,d⟩ = ⟨b,a,c,d⟩ := by simp [Pk.revv, Pk.rev, hok]
    rw [hr]
    go_enter Tryd.func13, Tryd.ntmps13
    go_wp2_with (first | (go_at_call 33; refine (pv_any _ _ _ _ _ (ht.below (by (repeat' (first | with_reducible exact Below.refl _ _ | with_reducible assumption | with_reducible refine Below.setCell ?_ ?_ _ | with_reducible refine Below.alloc ?_ ?_ _ | with_reducible refine Below.drew ?_ | with_reducible refine belDrewN ?_ _ | with_reducible refine Below.trans ?_ (Below.mono (by assumption) ?_) | omega | (simp; omega) | (simp; done)))))).mono ?_; rw [hok]; rintro e w1 ⟨rfl, hb⟩; obtain ⟨hc, hf⟩ := bcell hb; have hz := hb.size; (try simp at hz); have hzw_0 : w.heap.size < w1.heap.size := (by omega); have hzw_1 : w.heap.size + 1 < w1.heap.size := (by omega)) | (go_at_call 34; refine (rev_any _ _ _ _ _).mono ?_; rintro e w1 ⟨rfl, hb⟩; obtain ⟨hc, hf⟩ := bcell hb; have hz := hb.size; (try simp at hz); have hzw_0 : w.heap.size < w1.heap.size := (by omega); have hzw_1 : w.heap.size + 1 < w1.heap.size := (by omega)))
    exact bodyPost_ret (v := Pk.v ⟨b, a, c, d⟩) (by simp [results, Tryd.results13, go_sem, *]) rfl ⟨rfl, by (repeat' (first | with_reducible exact Below.refl _ _ | with_reducible assumption | with_reducible refine Below.setCell ?_ ?_ _ | with_reducible refine Below.alloc ?_ ?_ _ | with_reducible refine Below.drew ?_ | with_reducible refine belDrewN ?_ _ | with_reducible refine Below.trans ?_ (Below.mono (by assumption) ?_) | omega | (simp; omega) | (simp; done)))⟩
end Go.Proofs.YtlppchkilinpfaaDoor
