/- How a code of letters is opened. -/
import Derived.Test.YtfcbbahlhjdefaaGreatDoorOpenS
import Derived.Test.YtfcbbahlhjdefaaGreatDoorRgX
namespace Go.Proofs.YtfcbbahlhjdefaaGreatDoor
open Go.ChangeShapes Go.WideShapes Go.ChangeAt Go.RowKit Go.Joins Go.Deep
abbrev Byte:={ n:Int // 0≤n∧n≤255 }
theorem cellsByte:Tryz.prog.cellsOf 5=1:=by kernel_rfl
set_option maxRecDepth 100000 in
theorem byte_cells {H:Type} {en:TypeId × Value→H} {W:World} (n:Nat) (cs:List Value) (x:DataW H × List MemPlace) (h:DataW.trod en Tryz.prog W 0 (fun _=>true) true n 5 cs=some x):∃ y:Byte,cs=[.int .u8 y.1]:=by
 obtain ⟨a,e0,_,wx⟩:=DataW.trod_int Tryz.underlying5 h
 exact ⟨⟨a,bounds_u8 wx⟩,e0⟩
set_option maxRecDepth 100000 in
theorem open_code {H:Type} {en:TypeId × Value→H} {W:World} {b0:Nat} {r:Reach} {v:Value} {d:DataW H} {p:List MemPlace}
  (hv:Value.okWide Tryz.prog W r b0 22 v) (h:DataW.Trod en Tryz.prog W 0 (fun _=>true) true 22 v d p):∃ bs:List Int,CodeAt W v bs:=by
 obtain ⟨xs,a,cap,e,l1,l2,hx⟩:=open_sl (sz:=1) (enc:=fun y:Byte=>[.int .u8 y.1]) (by omega) (fun _=>rfl) Tryz.underlying22 cellsByte byte_cells hv h
 refine ⟨xs.map Subtype.val,⟨a,cap,by simpa using e,by simpa using l1,l2,fun k x hk=>?_⟩,fun n hn=>?_⟩
 ·rw [List.getElem?_map] at hk
  obtain ⟨y,hy,rfl⟩:=Option.map_eq_some_iff.1 hk
  exact hx k y hy
 ·obtain ⟨y,_,rfl⟩:=List.mem_map.1 hn
  exact y.2
end Go.Proofs.YtfcbbahlhjdefaaGreatDoor
