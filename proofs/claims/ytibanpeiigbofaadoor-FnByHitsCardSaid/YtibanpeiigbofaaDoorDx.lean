/- Draws of rules and a number. -/
import Derived.Test.YtibanpeiigbofaaDoorDxAJ
import Derived.Test.YtibanpeiigbofaaDoorDr
namespace Go.Proofs.YtibanpeiigbofaaDoor
open Go.RowKit
/-- The drawn rules that came of it, all else as before. -/
def FsD (w w' : World) (v : Value) (fs : List Ft) : Prop := FsO w.heap.size w' v fs ∧ fs.length ≤ 61 ∧ FtOk (fun n => n ≤ 4) fs ∧ Below w.heap.size w w'
theorem FsO.low {lo lo' : Nat} {w : World} {v : Value} {fs : List Ft} (h : FsO lo w v fs) (hl : lo' ≤ lo) : FsO lo' w v fs :=
  let ⟨rs, h1, h2⟩ := h; ⟨rs, OwnSl.mono h1 hl, h2.mono (fun _ _ h => ⟨h.1.mono hl, h.2⟩)⟩
def DrewLP (w : World) (e : Ending) (w' : World) : Prop := ∃ v fs n, e = .returned (.tuple #[v, .int .i64 n]) ∧ FsD w w' v fs ∧ -1 ≤ n ∧ n ≤ 61
set_option maxHeartbeats 2000000 in
set_option maxRecDepth 100000 in
theorem drawLP_any (bs : List Int) (v : Value) (w : World) (h : CodeAt w v bs) : Calls Tryd.prog 63 #[v] w (DrewLP w) := by
  go_enter Tryd.func63, Tryd.ntmps63
  go_wp2_with fail
  refine (open_any bs _ _ h).mono ?_
  rintro e w1 ⟨R, bs', rfl, hR, hr1, hb1⟩
  have hz1 := hb1.size
  have hRlt := hr1.lt
  go_wp2_with fail
  refine (drawFts_any R bs' 0 14 _ hr1 (by omega) (by omega) (by omega)).mono ?_
  rintro e w2 ⟨v2, fs, q2, rfl, ho2, hl2, hk2, hr2, hq2, hm2⟩
  have hz2 := hm2.size
  obtain ⟨sa, cap, rfl, hlc, hcm⟩ := ho2.fts.form
  unfold maxLen at hcm
  go_wp2_with fail
  refine (pick_any R bs' _ _ _ hr2 (by omega) (by omega)).mono ?_
  rintro e w3 ⟨x3, rfl, a3, b3, -, hr3, hm3⟩
  have hx3 := b3 (by omega)
  have hz3 := hm3.size
  have HO3 := Lib.hid (ho2.mv hm3 (by omega))
  have hM3 := hm2.trans (hm3.mono hz2)
  clear b3 hr2 hm2 hm3 ho2
  go_wp2_with fail
  refine (pick_any R bs' _ _ _ hr3 (by omega) (by omega)).mono ?_
  rintro e w4 ⟨x4, rfl, a4, b4, -, hr4, hm4⟩
  have hx4 := b4 (by omega)
  have hz4 := hm4.size
  have HO4 := Lib.hid (HO3.out.mv hm4 (by omega))
  have hM4 := hM3.trans (hm4.mono (by omega))
  have hB : Below w.heap.size w w4 := hb1.trans (hM4.below (by omega) hR)
  have q0 : 0 ≤ x4 / 13 := Int.ediv_nonneg a4 (by omega)
  have q1 : x4 / 13 ≤ 1 := by omega
  clear b4 hr3 hm4 hr4 hM3 hM4
  go_wp2
  go_ret2
  exact ⟨_, fs, _, rfl, ⟨HO4.out.low hz1, hl2, hk2, hB⟩, by omega, by omega⟩
end Go.Proofs.YtibanpeiigbofaaDoor
