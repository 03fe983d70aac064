/- Tests hold: the program's. -/
import Derived.Test.YtfcbbahlhjdefaaGreatDoorRdRc
import Derived.Test.YtfcbbahlhjdefaaGreatDoorUfC
import Derived.Test.YtfcbbahlhjdefaaGreatDoorBmX
import Derived.Test.YtfcbbahlhjdefaaGreatDoorFtQ
import Derived.Test.YtfcbbahlhjdefaaGreatDoorDt
import Derived.Test.YtfcbbahlhjdefaaGreatDoorUQe
namespace Go.Proofs.YtfcbbahlhjdefaaGreatDoor
open Go.RowKit
theorem RcL.tests {k:Nat} {l:List Ru} (h:RcL k l) (hv:rusvalid l=true):(l.flatMap (fun r=>tcuts r.ts)).length≤6*(if k=0 then 5 else 4):=by
 have h1:=h.2.2 hv
 have h2:∀ r,r∈l→r.ts.length≤3:=fun r hr=>by
  refine (h.2.1 r hr).2 ?_
  unfold rusvalid at hv
  rw [Bool.and_eq_true,List.all_eq_true] at hv
  have:=hv.1 r hr
  unfold Ru.ok at this
  rw [Bool.and_eq_true,Bool.and_eq_true] at this
  exact this.1.1
 have h3:=lcuts_len h2
 have h4:2*3*l.length≤6*(if k=0 then 5 else 4):=Nat.mul_le_mul_left 6 h1
 omega
theorem rcuts_le {cs:List (List Ru)} (hv:rsvalid cs=true) (hok:RcOk cs) (h3:cs.length≤3):(rcuts cs).length≤78:=by
 obtain ⟨-, -, -,hr, -⟩:=rsvalid_in hv
 match cs,hok,h3,hr with
 | [],_,_,_=>simp [rcuts]
 | [a],hok,_,hr =>
  have h1:=(hok 0 a rfl).tests (hr a (by simp))
  unfold rcuts
  simp only [List.flatMap_cons,List.flatMap_nil,List.append_nil]
  simp only [if_true] at h1
  omega
 | [a,b],hok,_,hr =>
  have h1:=(hok 0 a rfl).tests (hr a (by simp))
  have h2:=(hok 1 b rfl).tests (hr b (by simp))
  unfold rcuts
  simp only [List.flatMap_cons,List.flatMap_nil,List.append_nil,List.length_append]
  simp only [if_true] at h1
  rw [if_neg (by omega)] at h2
  omega
 | [a,b,c],hok,_,hr =>
  have h1:=(hok 0 a rfl).tests (hr a (by simp))
  have h2:=(hok 1 b rfl).tests (hr b (by simp))
  have h3:=(hok 2 c rfl).tests (hr c (by simp))
  unfold rcuts
  simp only [List.flatMap_cons,List.flatMap_nil,List.append_nil,List.length_append]
  simp only [if_true] at h1
  rw [if_neg (by omega)] at h2 h3
  omega
 | _::_::_::_::_,_,h,_=>simp at h
theorem rc_small {cs:List (List Ru)} (hok:RcOk cs) (h3:cs.length≤3):rcN cs≤1048576:=by
 have h1:∀ (k:Nat) l,cs[k]?=some l→ruN l≤100:=fun k l hl=>by
  have h:=hok k l hl
  unfold ruN
  have h2:=sumTo_bound (f:=fun r:Ru=>r.ts.length) (xs:=l) (C:=7) (fun j r hr=>(h.2.1 r (List.mem_of_getElem? hr)).1) l.length
  have:=h.1
  omega
 unfold rcN
 have h2:=sumTo_bound (f:=ruN) h1 cs.length
 omega
theorem uf_pairs {cs:List (List Ru)} (hok:RcOk cs) (h3:cs.length≤3) {o:List Ft} (h:ufRes cs 6=some o) {k l:Nat} {f g:Ft} (hlk:l<k) (hf:o[k]?=some f) (hg:o[l]?=some g) :
  meetV f.box g.box=some (bmeet f.box g.box)∧bvalid (bmeet f.box g.box)=true∧bempty (bmeet f.box g.box)=true:=by
 obtain ⟨hv,i,hw⟩:=ufRes_some h
 obtain ⟨-, -, -,hr, -⟩:=rsvalid_in hv
 have hfv:fvalid o=true:=by
  have:=ufRes_valid (cs:=cs) (f:=6)
  rw [h] at this
  exact this
 obtain ⟨-,hb⟩:=fvalid_all.1 hfv
 have hts:∀ c r,r∈cs.getD c []→tsvalid r.ts=true∧∀ x,x∈tcuts r.ts→x∈rcuts cs:=fun c r hm=>by
  refine ⟨?_,mem_rcuts hm⟩
  have h1:=hr _ (getD_mem hm)
  unfold rusvalid at h1
  rw [Bool.and_eq_true,List.all_eq_true] at h1
  have:=h1.1 r hm
  unfold Ru.ok at this
  rw [Bool.and_eq_true,Bool.and_eq_true] at this
  exact this.1.1
 obtain ⟨-,hc⟩:=ufWalk_cut hts 6 0 _ _ _ _ hw (fun z hz=>by rw [List.mem_singleton.1 hz];exact BCut.ball) (fun f hf=>by cases hf)
 have hvf:=hb f (List.mem_of_getElem? hf)
 have hvg:=hb g (List.mem_of_getElem? hg)
 have hm:=cut_meet (rcuts_le hv hok h3) hvf hvg (hc f (List.mem_of_getElem? hf)) (hc g (List.mem_of_getElem? hg))
 refine ⟨?_,hm,(ufRes_apart h hlk hg hf).2⟩
 rw [meetV_yes hvf hvg]
 unfold meetB
 rw [hm];rfl
end Go.Proofs.YtfcbbahlhjdefaaGreatDoor
namespace Go.Proofs.YtfcbbahlhjdefaaGreatDoor
open Go.RowKit
set_option maxHeartbeats 2000000 in
set_option maxRecDepth 100000 in
theorem holds_any {f lo hi a b c d:Int} {n:Bool} (ht:Te.ok ⟨f,lo,hi,n⟩=true) (w:World) :
  Calls Tryz.prog 126 #[.agg #[.int .i64 f,.int .i64 lo,.int .i64 hi,.bool n],.agg #[.int .i64 a,.int .i64 b,.int .i64 c,.int .i64 d]] w fun e w'=>e=.returned (.bool (tholds ⟨f,lo,hi,n⟩ ⟨a,b,c,d⟩))∧Below w.heap.size w w':=by
 have hf:f=0∨f=1∨f=2∨f=3:=by
  have h:=ht
  unfold Te.ok tvalid1 at h
  rw [Bool.and_eq_true,Bool.and_eq_true] at h
  have h1:=h.1.1
  simp [inB] at h1
  omega
 obtain ⟨W,hW⟩:∃ W,(w.alloc (.cells #[.int .i64 f,.int .i64 lo,.int .i64 hi,.bool n] 159)).alloc (.cells #[.int .i64 a,.int .i64 b,.int .i64 c,.int .i64 d] 33)=W:=⟨_,rfl⟩
 have hal:Below w.heap.size w W:=by rw [← hW];(repeat' (first | with_reducible exact Below.refl _ _ | with_reducible assumption | with_reducible refine Below.setCell ?_ ?_ _ | with_reducible refine Below.alloc ?_ ?_ _ | with_reducible refine Below.drew ?_ | with_reducible refine belDrewN ?_ _ | with_reducible refine Below.trans ?_ (Below.mono (by assumption) ?_) | omega | (simp;omega) | (simp;done)))
 have hz:w.heap.size+1<W.heap.size:=by rw [← hW];simp
 have HA:=alloc2_cells w #[.int .i64 f,.int .i64 lo,.int .i64 hi,.bool n] #[.int .i64 a,.int .i64 b,.int .i64 c,.int .i64 d] 159 33
 rw [hW] at HA
 have t0:W.cell? ⟨w.heap.size,0,none⟩=some (.int .i64 f):=(HA.1 0).1
 have t1:W.cell? ⟨w.heap.size,1,none⟩=some (.int .i64 lo):=(HA.1 1).1
 have t2:W.cell? ⟨w.heap.size,2,none⟩=some (.int .i64 hi):=(HA.1 2).1
 have t3:W.cell? ⟨w.heap.size,3,none⟩=some (.bool n):=(HA.1 3).1
 have p0:W.cell? ⟨w.heap.size+1,0,none⟩=some (.int .i64 a):=(HA.2 0).1
 have p1:W.cell? ⟨w.heap.size+1,1,none⟩=some (.int .i64 b):=(HA.2 1).1
 have p2:W.cell? ⟨w.heap.size+1,2,none⟩=some (.int .i64 c):=(HA.2 2).1
 have p3:W.cell? ⟨w.heap.size+1,3,none⟩=some (.int .i64 d):=(HA.2 3).1
 have hz0:w.heap.size<W.heap.size:=by omega
 obtain ⟨x,hx⟩:∃ x,Pk.fld ⟨a,b,c,d⟩ f.toNat=x:=⟨_,rfl⟩
 have HX:=Lib.hid hx
 clear HA
 go_enter Tryz.func126,Tryz.ntmps126
 go_wp2_with fail
 clear hW
 (refine wp_region_bel (W:=W) [BIs (.agg #[.int .i64 a,.int .i64 b,.int .i64 c,.int .i64 d]),(BIs (.agg #[.int .i64 a,.int .i64 b,.int .i64 c,.int .i64 d])),BIs (.pointer (some ⟨w.heap.size,0,none⟩)),BIs (.int .i64 f),(BIs (.int .i64 x)),BIs (.int .i64 x)] (by kernel_rfl) (fun u=>by simp only [frU,Act.put,List.setIfInBounds_toArray,List.set_cons_succ,List.set_cons_zero,Nat.zero_add,Nat.reduceAdd];exact rfl) (by kernel_rfl) ⟨bst_is _,(bst_is _),bst_is _,bst_is _,(bst_is _),bst_is _,trivial⟩ ?_ ?_;exact ⟨stB rfl (fun u w3 hC hd Q K hK=>by (have z0:=(hC.cell (p:=⟨w.heap.size+1,0,none⟩) hz).trans p0;have z1:=(hC.cell (p:=⟨w.heap.size+1,1,none⟩) hz).trans p1;have z2:=(hC.cell (p:=⟨w.heap.size+1,2,none⟩) hz).trans p2;have z3:=(hC.cell (p:=⟨w.heap.size+1,3,none⟩) hz).trans p3;go_step;exact hK _ _ rfl bR rfl)),stB rfl (fun u w3 hC hd Q K hK=>by (rw [bis (w:=w3) (hd 0 rfl)] at hK ⊢;go_step;refine (fields_any a b c d _).mono ?_;rintro e w4 ⟨rfl,hb4⟩;exact hK _ _ rfl hb4 rfl)),stB rfl (fun u w3 hC hd Q K hK=>by (go_step;exact hK _ _ rfl bR rfl)),stB rfl (fun u w3 hC hd Q K hK=>by (rw [bis (w:=w3) (hd 2 rfl)] at hK ⊢;have z0:=(hC.cell (p:=⟨w.heap.size,0,none⟩) hz0).trans t0;go_step;exact hK _ _ rfl bR rfl)),stB rfl (fun u w3 hC hd Q K hK=>by (rw [bis (w:=w3) (hd 1 rfl)] at hK ⊢;rw [bis (w:=w3) (hd 3 rfl)] at hK ⊢;rcases hf with rfl | rfl | rfl | rfl<;>(subst hx;go_step;exact hK _ _ rfl bR rfl))),stB rfl (fun u w3 hC hd Q K hK=>by (rw [bis (w:=w3) (hd 4 rfl)] at hK ⊢;go_step;exact hK _ _ rfl bR rfl)),trivial⟩);intro u w9 hb_w9 hF;rw [bis (w:=w9) (hF 0 (by decide))];generalize u 1=vx1 at *;rw [bis (w:=w9) (hF 2 (by decide))];rw [bis (w:=w9) (hF 3 (by decide))];generalize u 4=vx4 at *;rw [bis (w:=w9) (hF 5 (by decide))];clear hF
 have q1:=(hb_w9.cell (p:=⟨w.heap.size,1,none⟩) hz0).trans t1
 have q2:=(hb_w9.cell (p:=⟨w.heap.size,2,none⟩) hz0).trans t2
 have q3:=(hb_w9.cell (p:=⟨w.heap.size,3,none⟩) hz0).trans t3
 have HB:=Lib.hid (hal.trans (hb_w9.mono hal.size))
 clear hb_w9 hal hx
 by_cases h1:lo≤x
 ·by_cases h2:x≤hi
  ·go_wp2
   go_ret
   exact ⟨by unfold tholds inB;rw [HX.out];simp [h1,h2],HB.out⟩
  ·go_wp2
   go_ret
   exact ⟨by unfold tholds inB;rw [HX.out];simp [h1,decide_eq_false (show ¬ x≤hi by omega)],HB.out⟩
 ·go_wp2
  go_ret
  exact ⟨by unfold tholds inB;rw [HX.out];simp [decide_eq_false (show ¬ lo≤x by omega)],HB.out⟩
set_option maxHeartbeats 2000000 in
set_option maxRecDepth 100000 in
theorem allHold_any {lo:Nat} {v:Value} {ts:List Te} {a b c d:Int} (w:World) (hs:SlFr lo 4 Te.enc w v ts) (hv:ts.all Te.ok=true) (hl:ts.length≤1000) :
  Calls Tryz.prog 110 #[v,.agg #[.int .i64 a,.int .i64 b,.int .i64 c,.int .i64 d]] w fun e w'=>e=.returned (.bool (thold ts ⟨a,b,c,d⟩))∧Below w.heap.size w w':=by
 obtain ⟨va,vc,rfl,h1,h2,hx⟩:=hs
 obtain ⟨W,hW⟩:∃ W,w.alloc (.cells #[.int .i64 a,.int .i64 b,.int .i64 c,.int .i64 d] 33)=W:=⟨_,rfl⟩
 have hal:Below w.heap.size w W:=by rw [← hW];exact bR.alloc (Nat.le_refl _) _
 have hz0:w.heap.size<W.heap.size:=by rw [← hW];simp
 have p0:W.cell? ⟨w.heap.size,0,none⟩=some (.int .i64 a):=by rw [← hW];simp
 have p1:W.cell? ⟨w.heap.size,1,none⟩=some (.int .i64 b):=by rw [← hW];simp
 have p2:W.cell? ⟨w.heap.size,2,none⟩=some (.int .i64 c):=by rw [← hW];simp
 have p3:W.cell? ⟨w.heap.size,3,none⟩=some (.int .i64 d):=by rw [← hW];simp
 obtain ⟨n,hn⟩:∃ n,ts.length=n:=⟨_,rfl⟩
 rw [hn] at h1 hl ⊢
 have HN:=Lib.hid hn
 have HX:=Lib.hid hx
 have HAL:=Lib.hid hal
 clear hn hx hal
 go_enter Tryz.func110,Tryz.ntmps110
 go_wp2_with fail
 clear hW
 go_loopw [9] (fun i wr=>∃ j:Nat,j≤n∧i=.int .i64 j∧Hid (thold (ts.take j) ⟨a,b,c,d⟩=true)∧Hid (Below W.heap.size W wr)) (fun i _=>n - (intOf i).toNat)
 case atStart=>exact ⟨0,by omega,rfl,Lib.hid rfl,Lib.hid bR⟩
 case round =>
  obtain ⟨j,hj,rfl,HT,HB⟩:=hrel
  have hzr:=HB.out.size
  by_cases hjn:j<n
  ·have j3:(j:Int)<(n:Int):=by omega
   have j4:(0:Int)≤(j:Int):=by omega
   obtain ⟨t,ht⟩:∃ t,ts[j]?=some t:=⟨_,List.getElem?_eq_getElem (by rw [HN.out];exact hjn)⟩
   obtain ⟨bb,o,e, -,hbl,hcl⟩:=HX.out j t ht
   subst e
   have hBw:=HAL.out.trans (HB.out.mono HAL.out.size)
   have d0:=(hBw.cell (p:=⟨bb,o+j*4+0,none⟩) hbl).trans (hcl 0 _ rfl)
   have d1:=(hBw.cell (p:=⟨bb,o+j*4+1,none⟩) hbl).trans (hcl 1 _ rfl)
   have d2:=(hBw.cell (p:=⟨bb,o+j*4+2,none⟩) hbl).trans (hcl 2 _ rfl)
   have d3:=(hBw.cell (p:=⟨bb,o+j*4+3,none⟩) hbl).trans (hcl 3 _ rfl)
   simp only [Nat.add_zero] at d0
   obtain ⟨V,hV⟩:∃ V,wr.alloc (.cells #[.int .i64 t.fld,.int .i64 t.lo,.int .i64 t.hi,.bool t.not] 159)=V:=⟨_,rfl⟩
   have hvl:Below wr.heap.size wr V:=by rw [← hV];exact bR.alloc (Nat.le_refl _) _
   have k0:V.cell? ⟨wr.heap.size,0,none⟩=some (.int .i64 t.fld):=by rw [← hV];simp
   have k1:V.cell? ⟨wr.heap.size,1,none⟩=some (.int .i64 t.lo):=by rw [← hV];simp
   have k2:V.cell? ⟨wr.heap.size,2,none⟩=some (.int .i64 t.hi):=by rw [← hV];simp
   have k3:V.cell? ⟨wr.heap.size,3,none⟩=some (.bool t.not):=by rw [← hV];simp
   have hBV:=HB.out.trans (hvl.mono hzr)
   have q0:=(hBV.cell (p:=⟨w.heap.size,0,none⟩) hz0).trans p0
   have q1:=(hBV.cell (p:=⟨w.heap.size,1,none⟩) hz0).trans p1
   have q2:=(hBV.cell (p:=⟨w.heap.size,2,none⟩) hz0).trans p2
   have q3:=(hBV.cell (p:=⟨w.heap.size,3,none⟩) hz0).trans p3
   have HBV:=Lib.hid hBV
   have htok:Te.ok ⟨t.fld,t.lo,t.hi,t.not⟩=true:=(List.all_eq_true.1 hv) t (List.mem_of_getElem? ht)
   have HS:=Lib.hid (show ts.take (j+1)=ts.take j++[t] by rw [List.take_add_one,ht];rfl)
   have HM:=Lib.hid (List.mem_of_getElem? ht)
   clear hBw hvl hBV hcl ht
   go_wp2_with fail
   clear hV
   refine (holds_any htok _).mono ?_
   rintro e w2 ⟨rfl,hb2⟩
   have HB2:=Lib.hid (HBV.out.trans (hb2.mono HBV.out.size))
   clear hb2
   obtain ⟨r,hr⟩:∃ r,tholds ⟨t.fld,t.lo,t.hi,t.not⟩ ⟨a,b,c,d⟩=r:=⟨_,rfl⟩
   rw [hr]
   have HR:=Lib.hid hr
   clear hr
   cases r
   ·go_wp2
    go_ret
    refine ⟨?_,HAL.out.trans (HB2.out.mono HAL.out.size)⟩
    have:thold ts ⟨a,b,c,d⟩=false:=by
     unfold thold
     rw [List.all_eq_false]
     exact ⟨t,HM.out,by rw [show tholds t _=false from HR.out];simp⟩
    rw [this];rfl
   ·go_wp2
    go_roundw
    case rel =>
     refine ⟨j+1,by omega,by go_num,Lib.hid ?_,HB2⟩
     have h1:=HT.out
     unfold thold at h1 ⊢
     rw [HS.out,List.all_append,h1,List.all_cons,List.all_nil,show tholds t _=true from HR.out];rfl
    case measure=>simp [intOf];omega
  ·go_wp2
   go_ret
   refine ⟨?_,HAL.out.trans (HB.out.mono HAL.out.size)⟩
   have h1:=HT.out
   rw [List.take_of_length_le (by rw [HN.out];omega)] at h1
   rw [h1];rfl
end Go.Proofs.YtfcbbahlhjdefaaGreatDoor
