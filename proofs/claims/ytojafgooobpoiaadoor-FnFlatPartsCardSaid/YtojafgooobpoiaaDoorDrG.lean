/- The draw of rules and two words. -/
import Derived.Test.YtojafgooobpoiaaDoorDx
import Derived.Test.YtojafgooobpoiaaDoorDxBT
namespace Go.Proofs.YtojafgooobpoiaaDoor
open Go.RowKit
def DrewFP (w : World) (e : Ending) (w' : World) : Prop := ∃ v fs r c, e = .returned (.tuple #[v, .bool r, .bool c]) ∧ FsD w w' v fs
set_option maxHeartbeats 2000000 in
set_option maxRecDepth 100000 in
theorem drawFP_any (bs : List Int) (v : Value) (w : World) (h : CodeAt w v bs) : Calls Tryd.prog 22 #[v] w (DrewFP w) := by
  go_enter Tryd.func22, Tryd.ntmps22
  go_wp2_with fail
  refine (open_any bs _ _ h).mono ?_
  rintro e w1 ⟨R, bs', rfl, hR, hr1, hb1⟩
  have hz1 := hb1.size
  have hRlt := hr1.lt
  go_wp2_with fail
  refine (drawFts_any R bs' 0 12 _ hr1 (by omega) (by omega) (by omega)).mono ?_
  rintro e w2 ⟨v2, fs, q2, rfl, ho2, hl2, hk2, hr2, hq2, hm2⟩
  have hz2 := hm2.size
  obtain ⟨sa, cap, rfl, hlc, hcm⟩ := ho2.fts.form
  unfold maxLen at hcm
  go_wp2_with fail
  refine (pick_any R bs' _ _ _ hr2 (by omega) (by omega)).mono ?_
  rintro e w3 ⟨x3, rfl, a3, b3, -, hr3, hm3⟩
  have hz3 := hm3.size
  have HO3 := Lib.hid (ho2.mv hm3 (by omega))
  have hM3 := hm2.trans (hm3.mono hz2)
  clear b3 hr2 hm2 hm3 ho2
  obtain ⟨r, hr⟩ : ∃ r : Bool, (x3 == 0) = r := ⟨_, rfl⟩
  go_wp2_with fail
  refine (pick_any R bs' _ _ _ hr3 (by omega) (by omega)).mono ?_
  rintro e w4 ⟨x4, rfl, a4, b4, -, hr4, hm4⟩
  have hz4 := hm4.size
  have HO4 := Lib.hid (HO3.out.mv hm4 (by omega))
  have hM4 := hM3.trans (hm4.mono (by omega))
  have hB : Below w.heap.size w w4 := hb1.trans (hM4.below (by omega) hR)
  clear b4 hr3 hm4 hr4 hM3 hM4
  obtain ⟨c, hc⟩ : ∃ c : Bool, (x4 == 0) = c := ⟨_, rfl⟩
  go_wp2
  go_ret3
  exact ⟨_, fs, _, _, rfl, HO4.out.low hz1, hl2, hk2, hB⟩
end Go.Proofs.YtojafgooobpoiaaDoor
