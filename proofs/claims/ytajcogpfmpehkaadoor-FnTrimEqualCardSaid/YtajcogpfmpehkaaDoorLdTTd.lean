/- The draw of rules and a word. -/
import Derived.Test.YtajcogpfmpehkaaDoorDx
import Derived.Test.YtajcogpfmpehkaaDoorDxBT
namespace Go.Proofs.YtajcogpfmpehkaaDoor
open Go.RowKit
def DrewFB (w : World) (e : Ending) (w' : World) : Prop := ∃ v fs r, e = .returned (.tuple #[v, .bool r]) ∧ FsD w w' v fs
set_option maxHeartbeats 2000000 in
set_option maxRecDepth 100000 in
theorem drawTT_any (bs : List Int) (v : Value) (w : World) (h : CodeAt w v bs) : Calls Tryd.prog 7 #[v] w (DrewFB w) := by
  go_enter Tryd.func7, Tryd.ntmps7
  go_wp2_with fail
  refine (open_any bs _ _ h).mono ?_
  rintro e w1 ⟨R, bs', rfl, hR, hr1, hb1⟩
  have hz1 := hb1.size
  have hRlt := hr1.lt
  go_wp2_with fail
  refine (drawFts_any R bs' 0 12 _ hr1 (by omega) (by omega) (by omega)).mono ?_
  rintro e w2 ⟨v2, fs, q2, rfl, ho2, hl2, hk2, hr2, hq2, hm2⟩
  have hz2 := hm2.size
  obtain ⟨sa, cap, rfl, hlc, hcm⟩ := ho2.fts.form
  unfold maxLen at hcm
  go_wp2_with fail
  refine (pick_any R bs' _ _ _ hr2 (by omega) (by omega)).mono ?_
  rintro e w3 ⟨x3, rfl, a3, b3, -, hr3, hm3⟩
  have HO3 := Lib.hid (ho2.mv hm3 (by omega))
  have hM3 := hm2.trans (hm3.mono hz2)
  have hB : Below w.heap.size w w3 := hb1.trans (hM3.below (by omega) hR)
  obtain ⟨r, hr⟩ : ∃ r : Bool, (x3 == 0) = r := ⟨_, rfl⟩
  clear b3 hr2 hm2 hm3 ho2 hr3 hM3
  go_wp2
  go_ret2
  exact ⟨_, fs, _, rfl, HO3.out.low hz1, hl2, hk2, hB⟩
end Go.Proofs.YtajcogpfmpehkaaDoor
