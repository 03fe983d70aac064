/- Draws of rules alone. -/
import Derived.Test.YtojafgooobpoiaaDoorDx
namespace Go.Proofs.YtojafgooobpoiaaDoor
open Go.RowKit
def DrewF (w : World) (e : Ending) (w' : World) : Prop := ∃ v fs, e = .returned v ∧ FsD w w' v fs
set_option maxHeartbeats 1000000 in
theorem drawDD_any (bs : List Int) (v : Value) (w : World) (h : CodeAt w v bs) : Calls Tryd.prog 8 #[v] w (DrewF w) := by
  go_enter Tryd.func8, Tryd.ntmps8
  go_wp2_with fail
  refine (open_any bs _ _ h).mono ?_
  rintro e w1 ⟨R, bs', rfl, hR, hr1, hb1⟩
  have hz1 := hb1.size
  have hRlt := hr1.lt
  go_wp2_with fail
  refine (drawFts_any R bs' 0 12 _ hr1 (by omega) (by omega) (by omega)).mono ?_
  rintro e w2 ⟨v2, fs, q2, rfl, ho2, hl2, hk2, hr2, hq2, hm2⟩
  have hB : Below w.heap.size w w2 := hb1.trans (hm2.below (by omega) hR)
  clear hr1 hb1 hr2 hm2
  go_wp2
  go_ret
  exact ⟨_, fs, rfl, ho2.low hz1, hl2, hk2, hB⟩
set_option maxHeartbeats 1000000 in
theorem drawMF_any (bs : List Int) (v : Value) (w : World) (h : CodeAt w v bs) : Calls Tryd.prog 18 #[v] w (DrewF w) := by
  go_enter Tryd.func18, Tryd.ntmps18
  go_wp2_with fail
  refine (open_any bs _ _ h).mono ?_
  rintro e w1 ⟨R, bs', rfl, hR, hr1, hb1⟩
  have hz1 := hb1.size
  have hRlt := hr1.lt
  go_wp2_with fail
  refine (drawFts_any R bs' 0 12 _ hr1 (by omega) (by omega) (by omega)).mono ?_
  rintro e w2 ⟨v2, fs, q2, rfl, ho2, hl2, hk2, hr2, hq2, hm2⟩
  have hB : Below w.heap.size w w2 := hb1.trans (hm2.below (by omega) hR)
  clear hr1 hb1 hr2 hm2
  go_wp2
  go_ret
  exact ⟨_, fs, rfl, ho2.low hz1, hl2, hk2, hB⟩
end Go.Proofs.YtojafgooobpoiaaDoor
