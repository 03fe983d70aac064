/- BoxHas, equal lists, what a list decides, the probe; JudgeFlat. -/
import Derived.Test.YtfcbbahlhjdefaaGreatDoorFmK
import Derived.Test.YtfcbbahlhjdefaaGreatDoorCuW
import Derived.Test.YtfcbbahlhjdefaaGreatDoorRgX
import Derived.Laws.StructEq
import Derived.Test.YtfcbbahlhjdefaaGreatDoorDrT
import Derived.Test.YtfcbbahlhjdefaaGreatDoorFmZ
import Derived.Test.YtfcbbahlhjdefaaGreatDoorProg
import Derived.Test.YtfcbbahlhjdefaaGreatDoorBsA
namespace Go.Proofs.YtfcbbahlhjdefaaGreatDoor
open Go.RowKit
theorem spStruct:Tryz.prog.underlying 74=some (.struct (Tryz.prog.fieldsOf 74)):=by kernel_rfl
theorem spHeld:Tryz.prog.stoodInHeld 74=false:=by kernel_rfl
theorem spGuard:Tryz.prog.eqGuardType Tryz.prog.depth 74=false:=by kernel_rfl
theorem sp_equal (a1 a2:Int) (w:World):(Op.equalIn 10000 74 (.agg #[.int .i64 a1,.int .i64 a2]) (.agg #[.int .i64 a1,.int .i64 a2])).run Tryz.prog w=.ok true w:=by
 have u3:=Tryz.underlying3
 have a3:=Tryz.isAgg3
 have z3:=Tryz.sizeOf3
 rw [show (10000:Nat)=9999+1 from rfl,run_equalIn_agg w 9999 _ _ _ spStruct spHeld]
 simp only [Program.fieldsOf,Tryz.underlying74]
 go_simp
set_option maxHeartbeats 2000000 in
theorem sameSpans_e {lo lo':Nat} {xs:List Sp} {v u:Value} {w:World} (hs:Sps lo w v xs) (hu:Sps lo' w u xs) :
  Calls Tryz.prog 73 #[v,u] w fun e w'=>e=.returned (.bool true)∧Below w.heap.size w w':=by
 obtain ⟨a,cap,rfl,hlc,hcm⟩:=hs.form
 obtain ⟨a',cap',rfl,hlc',hcm'⟩:=hu.form
 unfold maxLen at hcm hcm'
 generalize hn:xs.length=n at *
 have HN:=Lib.hid hn
 have hp:=spGuard
 clear hn
 go_enter Tryz.func73,Tryz.ntmps73
 go_wp2_with fail
 go_loopw [5] (fun i wr=>∃ k:Nat,k≤n∧i=.int .i64 k∧Below w.heap.size w wr) (fun i _=>n - (intOf i).toNat)
 case atStart=>exact ⟨0,by omega,rfl,Below.refl _ _⟩
 case round =>
  obtain ⟨k,hk,rfl,hbr⟩:=hrel
  have hs2:=hs.below hbr
  have hu2:=hu.below hbr
  have hzr:=hbr.size
  by_cases hlt:k<n
  ·obtain ⟨b,o,f1,f2,rfl,hbl,hx,c0,c1⟩:=hs2.at (show k<xs.length by rw [HN.out];exact hlt)
   obtain ⟨b',o',g1,g2,rfl,hbl',hy,d0,d1⟩:=hu2.at (show k<xs.length by rw [HN.out];exact hlt)
   rw [hx] at hy
   obtain ⟨rfl,rfl⟩:=Sp.mk.inj (Option.some.inj hy)
   have i1:(k:Int)<(n:Int):=by omega
   have i2:(0:Int)≤(k:Int):=by omega
   have hq:=sp_equal f1 f2
   clear hx hy
   go_wp2_with fail
   go_quiet (fail)
   go_wp2
   go_roundw
   case rel=>exact ⟨k+1,by omega,by go_num,by (repeat' (first | with_reducible exact Below.refl _ _ | with_reducible assumption | with_reducible refine Below.setCell ?_ ?_ _ | with_reducible refine Below.alloc ?_ ?_ _ | with_reducible refine Below.drew ?_ | with_reducible refine belDrewN ?_ _ | with_reducible refine Below.trans ?_ (Below.mono (by assumption) ?_) | omega | (simp;omega) | (simp;done)))⟩
   case measure=>simp [intOf];omega
  ·go_wp2
   go_ret
   exact ⟨rfl,hbr⟩
set_option maxHeartbeats 2000000 in
theorem sameBox_e {lo lo':Nat} {xs:Bx} {v u:Value} {w:World} (hs:Rws lo w v xs) (hu:Rws lo' w u xs) :
  Calls Tryz.prog 34 #[.agg #[v],.agg #[u]] w fun e w'=>e=.returned (.bool true)∧Below w.heap.size w w':=by
 obtain ⟨a,cap,rfl,hlc,hcm⟩:=hs.form
 obtain ⟨a',cap',rfl,hlc',hcm'⟩:=hu.form
 unfold maxLen at hcm hcm'
 generalize hn:xs.length=n at *
 have HN:=Lib.hid hn
 clear hn
 have hal:Below w.heap.size w ((w.alloc (.cells #[.slice a n cap] 41)).alloc (.cells #[.slice a' n cap'] 41)):=by (repeat' (first | with_reducible exact Below.refl _ _ | with_reducible assumption | with_reducible refine Below.setCell ?_ ?_ _ | with_reducible refine Below.alloc ?_ ?_ _ | with_reducible refine Below.drew ?_ | with_reducible refine belDrewN ?_ _ | with_reducible refine Below.trans ?_ (Below.mono (by assumption) ?_) | omega | (simp;omega) | (simp;done)))
 obtain ⟨W,hW⟩:∃ W,(w.alloc (.cells #[.slice a n cap] 41)).alloc (.cells #[.slice a' n cap'] 41)=W:=⟨_,rfl⟩
 have q0:W.cell? ⟨w.heap.size,0,none⟩=some (.slice a n cap):=by rw [← hW];simp
 have q1:W.cell? ⟨w.heap.size+1,0,none⟩=some (.slice a' n cap'):=by rw [← hW];simp
 have qs:w.heap.size<W.heap.size:=by rw [← hW];simp;omega
 have qt:w.heap.size+1<W.heap.size:=by rw [← hW];simp
 rw [hW] at hal
 have hsW:=hs.below hal
 have huW:=hu.below hal
 clear hs hu
 go_enter Tryz.func34,Tryz.ntmps34
 go_wp2_with fail
 go_loopw [5] (fun i wr=>∃ k:Nat,k≤n∧i=.int .i64 k∧Below W.heap.size W wr) (fun i _=>n - (intOf i).toNat)
 case atStart=>exact ⟨0,by omega,rfl,Below.refl _ _⟩
 case round =>
  obtain ⟨k,hk,rfl,hbr⟩:=hrel
  have hs2:=hsW.below hbr
  have hu2:=huW.below hbr
  have hzr:=hbr.size
  have c0:=(hbr.cell (p:=⟨w.heap.size,0,none⟩) qs).trans q0
  have c1:=(hbr.cell (p:=⟨w.heap.size+1,0,none⟩) qt).trans q1
  have rs:w.heap.size<wr.heap.size:=by omega
  have rt:w.heap.size+1<wr.heap.size:=by omega
  by_cases hlt:k<n
  ·obtain ⟨x,hx⟩:∃ x,xs[k]?=some x:=⟨_,List.getElem?_eq_getElem (by rw [HN.out];exact hlt)⟩
   obtain ⟨b,o,sv,rfl,hbl,d0,hsv⟩:=hs2.at hx
   obtain ⟨b',o',su,rfl,hbl',d1,hsu⟩:=hu2.at hx
   have HSV:=Lib.hid hsv;have HSU:=Lib.hid hsu
   clear hx hsv hsu
   have i1:(k:Int)<(n:Int):=by omega
   have i2:(0:Int)≤(k:Int):=by omega
   go_wp2_with fail
   refine wp_region_over (by kernel_rfl) (by kernel_rfl) (fun ov=>?_);have ov0:=fun x=>ov x (b) (by (try simp)<;>omega);have ov1:=fun x=>ov x (b') (by (try simp)<;>omega);have ov2:=fun x=>ov x (w.heap.size) (by (try simp)<;>omega);have ov3:=fun x=>ov x (w.heap.size+1) (by (try simp)<;>omega);clear ov;(iterate 9 (iterate 8 (try go_big_quiet_step (first | (go_at_call 73;with_reducible exact callsOver (sameSpans_e (HSV.out.below (over_below _ _)) (HSU.out.below (over_below _ _))))))));refine wpQuiet_nil ?_;intro w9 hw9;have hb_w9:=below_over hw9;clear hw9 ov0 ov1 ov2 ov3
   have hb9:Below W.heap.size W w9:=hbr.trans (hb_w9.mono hzr)
   clear hb_w9
   go_wp2
   go_roundw
   case rel=>exact ⟨k+1,by omega,by go_num,hb9⟩
   case measure=>simp [intOf];omega
  ·go_wp2
   go_ret
   exact ⟨rfl,hal.trans (hbr.mono hal.size)⟩
set_option maxHeartbeats 2000000 in
set_option maxRecDepth 100000 in
theorem sameFlats_e {lo lo':Nat} {xs:List Ft} {v u:Value} {w:World} (hs:Fts lo w v xs) (hu:Fts lo' w u xs) :
  Calls Tryz.prog 8 #[v,u] w fun e w'=>e=.returned (.bool true)∧Below w.heap.size w w':=by
 obtain ⟨a,cap,rfl,hlc,hcm⟩:=hs.form
 obtain ⟨a',cap',rfl,hlc',hcm'⟩:=hu.form
 unfold maxLen at hcm hcm'
 generalize hn:xs.length=n at *
 have HN:=Lib.hid hn
 clear hn
 go_enter Tryz.func8,Tryz.ntmps8
 go_wp2_with fail
 go_loopw [5] (fun i wr=>∃ k:Nat,k≤n∧i=.int .i64 k∧Below w.heap.size w wr) (fun i _=>n - (intOf i).toNat)
 case atStart=>exact ⟨0,by omega,rfl,Below.refl _ _⟩
 case round =>
  obtain ⟨k,hk,rfl,hbr⟩:=hrel
  have hs2:=hs.below hbr
  have hu2:=hu.below hbr
  have hzr:=hbr.size
  by_cases hlt:k<n
  ·obtain ⟨x,hx⟩:∃ x,xs[k]?=some x:=⟨_,List.getElem?_eq_getElem (by rw [HN.out];exact hlt)⟩
   obtain ⟨b,o,sv,rfl,hbl,d0,d1,hsv⟩:=hs2.at hx
   obtain ⟨b',o',su,rfl,hbl',e0,e1,hsu⟩:=hu2.at hx
   obtain ⟨acc,hacc⟩:∃ acc,x.acc=acc:=⟨_,rfl⟩
   rw [hacc] at d1 e1
   have hne:(acc != acc)=false:=by cases acc<;>rfl
   have HSV:=Lib.hid hsv;have HSU:=Lib.hid hsu
   clear hx hsv hsu hacc
   have i1:(k:Int)<(n:Int):=by omega
   have i2:(0:Int)≤(k:Int):=by omega
   go_wp2_with fail
   refine wp_region_over (by kernel_rfl) (by kernel_rfl) (fun ov=>?_);have ov0:=fun x=>ov x (b) (by (try simp)<;>omega);have ov1:=fun x=>ov x (b') (by (try simp)<;>omega);clear ov;(iterate 9 (iterate 8 (try go_big_quiet_step (first | (go_at_call 34;with_reducible exact callsOver (sameBox_e (HSV.out.below (over_below _ _)) (HSU.out.below (over_below _ _))))))));refine wpQuiet_nil ?_;intro w9 hw9;have hb_w9:=below_over hw9;clear hw9 ov0 ov1
   have hb9:Below w.heap.size w w9:=hbr.trans (hb_w9.mono hzr)
   clear hb_w9
   go_wp2
   go_roundw
   case rel=>exact ⟨k+1,by omega,by go_num,hb9⟩
   case measure=>simp [intOf];omega
  ·go_wp2
   go_ret
   exact ⟨rfl,hbr⟩
def jw:List Ft→Bool→Pk→Bool
 | [],r,_=>r
 | f::fs,r,p=>if bhas f.box p then f.acc else jw fs r p
def jfl (fs:List Ft) (r:Bool) (p:Pk):Bool:=fvalid fs && p.ok && jw fs r p
theorem fwith_jw (p:Pk) (r:Bool):∀ (fs:List Ft) (m:Nat),(fwith fs p m = -1∧jw fs r p=r)∨∃ (k:Nat) (f:Ft),fs[k]?=some f∧fwith fs p m=((m+k:Nat):Int)∧bhas f.box p=true∧(∀ (i:Nat) g,i<k→fs[i]?=some g→bhas g.box p=false)∧jw fs r p=f.acc
 | [],m=>.inl ⟨rfl,rfl⟩
 | f::fs,m=>by
  unfold fwith jw
  cases e:bhas f.box p
  ·simp only [Bool.false_eq_true,if_false]
   rcases fwith_jw p r fs (m+1) with h | ⟨k,g,h1,h2,h3,h4,h5⟩
   ·exact .inl h
   ·refine .inr ⟨k+1,g,by simpa using h1,by rw [h2];congr 1;omega,h3,fun i x hi hx=>?_,h5⟩
    match i,hi,hx with
    | 0,_,hx=>simp at hx;subst hx;exact e
    | i+1,hi,hx=>exact h4 i x (by omega) (by simpa using hx)
  ·simp only [if_true]
   exact .inr ⟨0,f,rfl,by simp,e,fun i g hi=>absurd hi (by omega),rfl⟩
theorem Box4.get {w:World} {b:Nat} {v0 v1 v2 v3:Int} (h:Box4 w b v0 v1 v2 v3) {j:Nat} (hj:j<4):∃ c:Int,w.cell? ⟨b,j,none⟩=Option.some (.int .i64 c):=by
 rcases (by omega:j=0∨j=1∨j=2∨j=3) with rfl | rfl | rfl | rfl
 ·exact ⟨_,h.c0⟩
 ·exact ⟨_,h.c1⟩
 ·exact ⟨_,h.c2⟩
 ·exact ⟨_,h.c3⟩
theorem Box4.put {w:World} {b:Nat} {v0 v1 v2 v3:Int} (h:Box4 w b v0 v1 v2 v3) {j:Nat} (hj:j<4) (v:Int):∃ u0 u1 u2 u3,Box4 (w.setCell ⟨b,j,none⟩ (.int .i64 v)) b u0 u1 u2 u3:=by
 rcases (by omega:j=0∨j=1∨j=2∨j=3) with rfl | rfl | rfl | rfl
 ·exact ⟨_,_,_,_,(h.set v).1⟩
 ·exact ⟨_,_,_,_,(h.set v).2.1⟩
 ·exact ⟨_,_,_,_,(h.set v).2.2.1⟩
 ·exact ⟨_,_,_,_,(h.set v).2.2.2⟩
theorem Box4.far {w:World} {b:Nat} {v0 v1 v2 v3:Int} (h:Box4 w b v0 v1 v2 v3) {p:Addr} (hp:p.block≠b) (u:Value):Box4 (w.setCell p u) b v0 v1 v2 v3 :=
 h.mv (R:=p.block) (B:=w.heap.size) ⟨rfl,rfl,rfl,by simp,fun k _ hne=>Below.heap_setCell _ _ _ _ hne⟩ h.lt (fun e=>hp e.symm)
def PbSt (w wr:World):Prop:=(∃ v0 v1 v2 v3,Box4 wr (w.heap.size+1+1) v0 v1 v2 v3)∧Box4 wr w.heap.size 0 0 0 0∧Below w.heap.size w wr
theorem PbSt.al {w wr:World} (h:PbSt w wr) (o:Obj):PbSt w (wr.alloc o) :=
 let ⟨⟨v0,v1,v2,v3,h1⟩,h2,h3⟩:=h
 ⟨⟨v0,v1,v2,v3,h1.old o⟩,h2.old o,h3.alloc h3.size o⟩
theorem PbSt.put {w wr:World} (h:PbSt w wr) {j:Nat} (hj:j<4) (v:Int):PbSt w (wr.setCell ⟨w.heap.size+1+1,j,none⟩ (.int .i64 v)) :=
 let ⟨⟨v0,v1,v2,v3,h1⟩,h2,h3⟩:=h
 ⟨h1.put hj v,h2.far (by simp only;omega) _,h3.setCell (by simp only;omega) _⟩
theorem PbSt.get {w wr:World} (h:PbSt w wr) {j:Nat} (hj:j<4):(∃ c:Int,wr.cell? ⟨w.heap.size+1+1,j,none⟩=some (.int .i64 c))∧wr.frozen? ⟨w.heap.size+1+1,j,none⟩=false∧w.heap.size+1+1<wr.heap.size :=
 let ⟨⟨_,_,_,_,h1⟩,_,_⟩:=h
 ⟨h1.get hj,h1.frz j,h1.lt⟩
set_option maxHeartbeats 4000000 in
set_option maxRecDepth 100000 in
theorem probe_any {lo:Nat} (bs:List Bx) (v:Value) (sd:Nat) (w:World) (hs:Bxs lo w v bs) (hsd:sd≤1048576) (hb:bs.length≤100) (hb40:∀ (k:Nat) b,bs[k]?=some b→b.length≤100∧∀ (j:Nat) xs,b[j]?=some xs→xs.length≤1000) :
  Calls Tryz.prog 10 #[v,.int .i64 sd] w fun e w'=>∃ x:Pk,e=.returned (Pk.v x)∧Below w.heap.size w w':=by
 obtain ⟨a,cap,rfl,hlc,hcm⟩:=hs.form
 unfold maxLen at hcm
 generalize hnn:bs.length=n at *
 have HN:=Lib.hid hnn
 clear hnn
 obtain ⟨x0,hx0⟩:∃ x:Int,(sd:Int) % 65536=x:=⟨_,rfl⟩
 go_enter Tryz.func10,Tryz.ntmps10
 go_wp2_with fail
 have h0:=Box4.new w 0 0 0 0 33
 have hS:PbSt w (((w.alloc (.cells #[.int .i64 0,.int .i64 0,.int .i64 0,.int .i64 0] 33)).alloc (.cells #[.int .i64 x0,.int .i64 ((sd:Int) / 3 % 65536),.int .i64 ((sd:Int) % 256),.int .i64 ((sd:Int) % 8)] 33)).alloc (.cells #[.int .i64 x0,.int .i64 ((sd:Int) / 3 % 65536),.int .i64 ((sd:Int) % 256),.int .i64 ((sd:Int) % 8)] 3)):=by
  refine ⟨⟨x0,(sd:Int) / 3 % 65536,(sd:Int) % 256,(sd:Int) % 8,?_⟩,(h0.old _).old _,by (repeat' (first | with_reducible exact Below.refl _ _ | with_reducible assumption | with_reducible refine Below.setCell ?_ ?_ _ | with_reducible refine Below.alloc ?_ ?_ _ | with_reducible refine Below.drew ?_ | with_reducible refine belDrewN ?_ _ | with_reducible refine Below.trans ?_ (Below.mono (by assumption) ?_) | omega | (simp;omega) | (simp;done)))⟩
  have:=Box4.new ((w.alloc (.cells #[.int .i64 0,.int .i64 0,.int .i64 0,.int .i64 0] 33)).alloc (.cells #[.int .i64 x0,.int .i64 ((sd:Int) / 3 % 65536),.int .i64 ((sd:Int) % 256),.int .i64 ((sd:Int) % 8)] 33)) x0 ((sd:Int) / 3 % 65536) ((sd:Int) % 256) ((sd:Int) % 8) 3
  simpa using this
 go_loopw [7] (fun i wr=>∃ k:Nat,k≤n∧i=.int .i64 k∧PbSt w wr) (fun i _=>n - (intOf i).toNat)
 case atStart=>exact ⟨0,by omega,rfl,hS⟩
 case round =>
  clear hS h0
  obtain ⟨k,hk,rfl,hS⟩:=hrel
  by_cases hlt:k<n
  ·have i1:(k:Int)<(n:Int):=by omega
   have i2:(0:Int)≤(k:Int):=by omega
   go_wp2_with fail
   go_loopw [8] (fun i wi=>∃ j:Nat,j≤4∧i=.int .i64 j∧PbSt w wi) (fun i _=>4 - (intOf i).toNat)
   case atStart=>exact ⟨0,by omega,rfl,hS⟩
   case round =>
    clear hS
    obtain ⟨j,hj,rfl,hS⟩:=hrel
    by_cases hj4:j<4
    ·obtain ⟨bx,hbx⟩:∃ bx,bs[k]?=some bx:=⟨_,List.getElem?_eq_getElem (by rw [HN.out];exact hlt)⟩
     obtain ⟨hl1,hl2⟩:=hb40 k bx hbx
     obtain ⟨b',o,sv,rfl,hbl,c0,hsv⟩:=(hs.below hS.2.2).at hbx
     obtain ⟨sa,sc,rfl,hsl,hsm⟩:=hsv.form
     unfold maxLen at hsm
     generalize hmm:bx.length=m at *
     have HM:=Lib.hid hmm
     have j1:(j:Int)<4:=by omega
     have j2:(0:Int)≤(j:Int):=by omega
     clear hmm hbx
     by_cases hjm:j<m
     ·have j3:(j:Int)<(m:Int):=by omega
      obtain ⟨xs,hx⟩:∃ xs,bx[j]?=some xs:=⟨_,List.getElem?_eq_getElem (by rw [HM.out];exact hjm)⟩
      have hl3:=hl2 j xs hx
      obtain ⟨b2,o2,sv2,rfl,hbl2,d0,hsv2⟩:=hsv.at hx
      obtain ⟨ta,tc,rfl,htl,htm⟩:=hsv2.form
      unfold maxLen at htm
      generalize hll:xs.length=L at *
      have HL:=Lib.hid hll
      clear hll hx hsv
      by_cases hL0:L=0
      ·subst hL0
       go_wp2
       go_roundw
       case rel=>exact ⟨j+1,by omega,by go_num,hS⟩
       case measure=>simp [intOf];omega
      ·have hL0i:((L:Int)==0)=false:=by simpa using hL0
       by_cases h3:((sd:Int)+(k:Int)+(j:Int)) % 3=0
       ·go_wp2
        go_roundw
        case rel=>exact ⟨j+1,by omega,by go_num,hS⟩
        case measure=>simp [intOf];omega
       ·have h3b:(((sd:Int)+(k:Int)+(j:Int)) % 3==0)=false:=by simpa using h3
        obtain ⟨mm,hmm⟩:=Int.eq_ofNat_of_zero_le (Int.emod_nonneg ((sd:Int)+(j:Int)) (by omega:(L:Int)≠0))
        have hml:=Int.emod_lt_of_pos ((sd:Int)+(j:Int)) (by omega:(0:Int)<(L:Int))
        rw [hmm] at hml
        obtain ⟨sb,so,f1,f2,rfl,hsbl, -,s0,s1⟩:=hsv2.at (k:=mm) (by rw [HL.out];omega)
        clear hsv2
        have hS2:=Lib.hid (hS.al (.cells #[.int .i64 f1,.int .i64 f2] 74))
        obtain ⟨⟨c,hc⟩,hcf,hVl⟩:=hS.get hj4
        have hT:=Lib.hid hS
        clear hS hS2
        by_cases h2:((sd:Int)+(k:Int)) % 2=0
        ·have h2b:(((sd:Int)+(k:Int)) % 2==0)=true:=by simpa using h2
         go_wp2
         go_roundw
         case rel=>exact ⟨j+1,by omega,by go_num,((hT.out.put hj4 f1).put hj4 f2).al _⟩
         case measure=>simp [intOf];omega
        ·have h2b:(((sd:Int)+(k:Int)) % 2==0)=false:=by simpa using h2
         go_wp2
         go_roundw
         case rel=>exact ⟨j+1,by omega,by go_num,(hT.out.put hj4 f1).al _⟩
         case measure=>simp [intOf];omega
     ·have j3:¬ (j:Int)<(m:Int):=by omega
      go_wp2
      go_roundw
      case rel=>exact ⟨k+1,by omega,by go_num,hS⟩
      case measure=>simp [intOf];omega
    ·have j1:¬ (j:Int)<4:=by omega
     go_wp2
     go_roundw
     case rel=>exact ⟨k+1,by omega,by go_num,hS⟩
     case measure=>simp [intOf];omega
  ·have hkn:k=n:=by omega
   obtain ⟨⟨u0,u1,u2,u3,V⟩,A,hB⟩:=hS
   obtain ⟨l0,c0,c1,c2,c3,cf⟩:=id V
   obtain ⟨a0,d0,d1,d2,d3,df⟩:=id A
   go_wp2_with fail
   clear V A
   go_region
   all_goals
    go_wp2_with fail
    exact bodyPost_ret (v:=.agg #[.int .i64 u0,.int .i64 u1,.int .i64 u2,.int .i64 u3]) (by simp [results,Tryz.results10,go_sem,d0,d1,d2,d3]) rfl ⟨⟨u0,u1,u2,u3⟩,rfl,by (repeat' (first | with_reducible exact Below.refl _ _ | with_reducible assumption | with_reducible refine Below.setCell ?_ ?_ _ | with_reducible refine Below.alloc ?_ ?_ _ | with_reducible refine Below.drew ?_ | with_reducible refine belDrewN ?_ _ | with_reducible refine Below.trans ?_ (Below.mono (by assumption) ?_) | omega | (simp;omega) | (simp;done)))⟩
set_option maxHeartbeats 2000000 in
theorem implJF_any {lo:Nat} (fs:List Ft) (v:Value) (r:Bool) (p1 p2 p3 p4:Int) (w:World) (hs:Fts lo w v fs) (ht:Tab w) :
  Calls Tryz.prog 16 #[v,.bool r,.agg #[.int .i64 p1,.int .i64 p2,.int .i64 p3,.int .i64 p4]] w fun e w'=>e=.returned (.bool (jfl fs r ⟨p1,p2,p3,p4⟩))∧Below w.heap.size w w':=by
 have hal:Below w.heap.size w (w.alloc (.cells #[.int .i64 p1,.int .i64 p2,.int .i64 p3,.int .i64 p4] 33)):=bR.alloc (Nat.le_refl _) _
 obtain ⟨W,hW⟩:∃ W,w.alloc (.cells #[.int .i64 p1,.int .i64 p2,.int .i64 p3,.int .i64 p4] 33)=W:=⟨_,rfl⟩
 have r0:W.cell? ⟨w.heap.size,0,none⟩=some (.int .i64 p1):=by rw [← hW];simp
 have r1:W.cell? ⟨w.heap.size,1,none⟩=some (.int .i64 p2):=by rw [← hW];simp
 have r2:W.cell? ⟨w.heap.size,2,none⟩=some (.int .i64 p3):=by rw [← hW];simp
 have r3:W.cell? ⟨w.heap.size,3,none⟩=some (.int .i64 p4):=by rw [← hW];simp
 have qs:w.heap.size<W.heap.size:=by rw [← hW];simp
 rw [hW] at hal
 have hsW:=hs.below hal
 have htW:=ht.below hal
 cases hv:fvalid fs
 ·have HD:=Lib.hid (show jfl fs r ⟨p1,p2,p3,p4⟩=false by simp [jfl,hv])
  rw [HD.out]
  go_enter Tryz.func16,Tryz.ntmps16
  go_wp2_with fail
  refine (implFV_b hsW htW hv).mono ?_
  rintro e w1 ⟨rfl,hb1⟩
  have hw1:=hal.trans (hb1.mono hal.size)
  clear hb1 hW
  go_wp2
  go_ret
  exact ⟨rfl,hw1⟩
 ·have HH:=Lib.hid hv
  cases hp:Pk.ok ⟨p1,p2,p3,p4⟩
  ·have HD:=Lib.hid (show jfl fs r ⟨p1,p2,p3,p4⟩=false by simp [jfl,hp])
   rw [HD.out]
   go_enter Tryz.func16,Tryz.ntmps16
   go_wp2_with fail
   refine (implFV_b hsW htW hv).mono ?_
   rintro e w1 ⟨rfl,hb1⟩
   have e0:=(hb1.cell (p:=⟨w.heap.size,0,none⟩) qs).trans r0
   have e1:=(hb1.cell (p:=⟨w.heap.size,1,none⟩) qs).trans r1
   have e2:=(hb1.cell (p:=⟨w.heap.size,2,none⟩) qs).trans r2
   have e3:=(hb1.cell (p:=⟨w.heap.size,3,none⟩) qs).trans r3
   have hw1:=hal.trans (hb1.mono hal.size)
   have ht1:=htW.below hb1
   clear hb1 hW
   go_wp2_with fail
   refine (pv_b hp ht1).mono ?_
   rintro e w2 ⟨rfl,hb2⟩
   have hw2:=hw1.trans (hb2.mono hw1.size)
   clear hb2
   go_wp2
   go_ret
   exact ⟨rfl,hw2⟩
  ·have HD:=Lib.hid (show jfl fs r ⟨p1,p2,p3,p4⟩=jw fs r ⟨p1,p2,p3,p4⟩ by simp [jfl,hv,hp])
   rw [HD.out]
   have HCC:=fwith_jw ⟨p1,p2,p3,p4⟩ r fs 0
   obtain ⟨m,hr⟩:∃ m,fwith fs ⟨p1,p2,p3,p4⟩ 0=m:=⟨_,rfl⟩
   rw [hr] at HCC
   have HR:=Lib.hid hr
   have HC1:=Lib.hid HCC
   clear hr HCC
   go_enter Tryz.func16,Tryz.ntmps16
   go_wp2_with fail
   refine (implFV_b hsW htW hv).mono ?_
   rintro e w1 ⟨rfl,hb1⟩
   have e0:=(hb1.cell (p:=⟨w.heap.size,0,none⟩) qs).trans r0
   have e1:=(hb1.cell (p:=⟨w.heap.size,1,none⟩) qs).trans r1
   have e2:=(hb1.cell (p:=⟨w.heap.size,2,none⟩) qs).trans r2
   have e3:=(hb1.cell (p:=⟨w.heap.size,3,none⟩) qs).trans r3
   have hW1:=hb1
   have ht1:=htW.below hb1
   clear hb1 hW
   go_wp2_with fail
   refine (pv_b hp ht1).mono ?_
   rintro e w2 ⟨rfl,hb2⟩
   have hW2:=hW1.trans (hb2.mono hW1.size)
   have f0:=(hW2.cell (p:=⟨w.heap.size,0,none⟩) qs).trans r0
   have f1:=(hW2.cell (p:=⟨w.heap.size,1,none⟩) qs).trans r1
   have f2:=(hW2.cell (p:=⟨w.heap.size,2,none⟩) qs).trans r2
   have f3:=(hW2.cell (p:=⟨w.heap.size,3,none⟩) qs).trans r3
   have qs2:w.heap.size<w2.heap.size:=Nat.lt_of_lt_of_le qs hW2.size
   clear hb2 e0 e1 e2 e3
   go_wp2_with fail
   (refine wp_region_bel (W:=w2) [BIs (v),(fun w u=>Ifs 0 w u fs),BIs (.agg #[.int .i64 p1,.int .i64 p2,.int .i64 p3,.int .i64 p4]),(BIs (.int .i64 m)),BIs (.int .i64 m)] (by kernel_rfl) (fun u=>by simp only [frU,Act.put,List.setIfInBounds_toArray,List.set_cons_succ,List.set_cons_zero,Nat.zero_add,Nat.reduceAdd];exact rfl) (by kernel_rfl) ⟨bst_is _,(fun _ _ _ hb h=>h.below hb),bst_is _,(bst_is _),bst_is _,trivial⟩ ?_ ?_;exact ⟨stB rfl (fun u w3 hC hd Q K hK=>by (go_step;exact hK _ _ rfl bR rfl)),stB rfl (fun u w3 hC hd Q K hK=>by (rw [bis (w:=w3) (hd 0 rfl)] at hK ⊢;go_step;refine (flatsOf_any fs v _ ((hsW.below hW2).below hC) (fvalid_four HH.out) (fvalid_len HH.out)).mono ?_;rintro e w4 ⟨v4,rfl,ho4,hb4⟩;exact hK _ _ rfl hb4 ho4)),stB rfl (fun u w3 hC hd Q K hK=>by (have g0:=(hC.cell (p:=⟨w.heap.size,0,none⟩) qs2).trans f0;have g1:=(hC.cell (p:=⟨w.heap.size,1,none⟩) qs2).trans f1;have g2:=(hC.cell (p:=⟨w.heap.size,2,none⟩) qs2).trans f2;have g3:=(hC.cell (p:=⟨w.heap.size,3,none⟩) qs2).trans f3;go_step;exact hK _ _ rfl bR rfl)),stB rfl (fun u w3 hC hd Q K hK=>by (have hi1:=hd 1 rfl;generalize u 1=v1 at *;rw [bis (w:=w3) (hd 2 rfl)] at hK ⊢;go_step;refine (firstWith_b hi1 HR.out).mono ?_;rintro e w4 ⟨rfl,hb4⟩;exact hK _ _ rfl hb4 rfl)),stB rfl (fun u w3 hC hd Q K hK=>by (rw [bis (w:=w3) (hd 3 rfl)] at hK ⊢;go_step;exact hK _ _ rfl bR rfl)),trivial⟩);intro u w3 hb_w3 hF;rw [bis (w:=w3) (hF 0 (by decide))];generalize u 1=vx1 at *;rw [bis (w:=w3) (hF 2 (by decide))];generalize u 3=vx3 at *;rw [bis (w:=w3) (hF 4 (by decide))];clear hF
   have hw3:=hal.trans ((hW2.trans (hb_w3.mono hW2.size)).mono hal.size)
   have hW3:=hW2.trans (hb_w3.mono hW2.size)
   clear hb_w3
   rcases HC1.out with ⟨h1,h2⟩ | ⟨k,f,hk,h2, -, -,h5⟩
   ·subst h1
    go_wp2
    go_ret
    first
     | exact ⟨rfl,hw3⟩
     | exact ⟨ret_bool h2.symm,hw3⟩
   ·obtain ⟨a,cap,hv',hlc,hcm⟩:=hs.form
    unfold maxLen at hcm
    subst hv'
    obtain ⟨b',o,sv,rfl,hbl, -,c1, -⟩:=(hsW.below hW3).at hk
    have hkl:=(List.getElem?_eq_some_iff.1 hk).1
    rw [Nat.zero_add] at h2
    subst h2
    have HJ5:=Lib.hid h5
    generalize fs.length=n at *
    have i1:(k:Int)<(n:Int):=by omega
    have i2:(0:Int)≤(k:Int):=by omega
    clear hk h5
    go_wp2
    go_ret
    exact ⟨ret_bool HJ5.out.symm,hw3⟩
theorem implJF_b {lo:Nat} {fs:List Ft} {v:Value} {r q:Bool} {p1 p2 p3 p4:Int} {w:World} (hs:Fts lo w v fs) (ht:Tab w) (h:jfl fs r ⟨p1,p2,p3,p4⟩=q) :
  Calls Tryz.prog 16 #[v,.bool r,.agg #[.int .i64 p1,.int .i64 p2,.int .i64 p3,.int .i64 p4]] w fun e w'=>e=.returned (.bool q)∧Below w.heap.size w w':=by
 subst h
 exact implJF_any fs v r p1 p2 p3 p4 w hs ht
set_option maxHeartbeats 400000 in
theorem have_one (b:Nat) (w:World) (hb:b<w.heap.size) (h0:w.cell? ⟨b,0,none⟩=some (.int .i64 2)) (h1:w.cell? ⟨b,1,none⟩=some (.int .i64 4)) :
  Calls Tryz.prog 35 #[.slice (some ⟨b,0,none⟩) 1 1,.int .i64 3] w fun e w'=>e=.returned (.bool true)∧Below w.heap.size w w':=by
 go_enter Tryz.func35,Tryz.ntmps35
 go_wp2_with fail
 go_loopw [9] (fun i wr=>i=.int .i64 0∧Below w.heap.size w wr) (fun _ _=>0)
 case atStart=>exact ⟨rfl,by (repeat' (first | with_reducible exact Below.refl _ _ | with_reducible assumption | with_reducible refine Below.setCell ?_ ?_ _ | with_reducible refine Below.alloc ?_ ?_ _ | with_reducible refine Below.drew ?_ | with_reducible refine belDrewN ?_ _ | with_reducible refine Below.trans ?_ (Below.mono (by assumption) ?_) | omega | (simp;omega) | (simp;done)))⟩
 case round =>
  obtain ⟨rfl,hb2⟩:=hrel
  have c0:=(hb2.cell (p:=⟨b,0,none⟩) hb).trans h0
  have c1:=(hb2.cell (p:=⟨b,1,none⟩) hb).trans h1
  have hz2:=hb2.size
  go_wp2
  go_ret
  exact ⟨rfl,by (repeat' (first | with_reducible exact Below.refl _ _ | with_reducible assumption | with_reducible refine Below.setCell ?_ ?_ _ | with_reducible refine Below.alloc ?_ ?_ _ | with_reducible refine Below.drew ?_ | with_reducible refine belDrewN ?_ _ | with_reducible refine Below.trans ?_ (Below.mono (by assumption) ?_) | omega | (simp;omega) | (simp;done)))⟩
set_option maxHeartbeats 400000 in
theorem alive_any (w:World):Calls Tryz.prog 9 #[] w fun e w'=>e=.returned (.bool true)∧Below w.heap.size w w':=by
 go_enter Tryz.func9,Tryz.ntmps9
 go_wp2_with fail
 refine (have_one _ _ (by simp) (by simp) (by simp)).mono ?_
 rintro e w1 ⟨rfl,hb1⟩
 go_wp2
 go_ret
 exact ⟨rfl,by (repeat' (first | with_reducible exact Below.refl _ _ | with_reducible assumption | with_reducible refine Below.setCell ?_ ?_ _ | with_reducible refine Below.alloc ?_ ?_ _ | with_reducible refine Below.drew ?_ | with_reducible refine belDrewN ?_ _ | with_reducible refine Below.trans ?_ (Below.mono (by assumption) ?_) | omega | (simp;omega) | (simp;done)))⟩
end Go.Proofs.YtfcbbahlhjdefaaGreatDoor
