/- Which rule decides: the program's walk. -/
import Derived.Test.YtfcbbahlhjdefaaGreatDoorFmZ
import Derived.Test.YtfcbbahlhjdefaaGreatDoorRgX
namespace Go.Proofs.YtfcbbahlhjdefaaGreatDoor
open Go.RowKit
theorem fvalid_len {fs:List Ft} (h:fvalid fs=true):fs.length≤1000000:=by
 unfold fvalid at h
 rw [Bool.and_eq_true] at h
 have:=h.1
 simp at this
 omega
theorem fvalid_four {fs:List Ft} (h:fvalid fs=true) (k:Nat) (f:Ft) (hx:fs[k]?=some f):f.box.length=4:=(bvalid_four (fvalid_at h hx)).1
theorem firstWith_b {lo:Nat} {fs:List Ft} {v:Value} {p1 p2 p3 p4:Int} {w:World} {r:Int} (hs:Ifs lo w v fs) (h:fwith fs ⟨p1,p2,p3,p4⟩ 0=r) :
  Calls Tryz.prog 46 #[v,.agg #[.int .i64 p1,.int .i64 p2,.int .i64 p3,.int .i64 p4]] w
   fun e w'=>e=.returned (.int .i64 r)∧Below w.heap.size w w':=by
 subst h
 exact firstWith_any fs v p1 p2 p3 p4 w hs
end Go.Proofs.YtfcbbahlhjdefaaGreatDoor
