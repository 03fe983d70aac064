/- Sets that lie in no block of a kind; results of the sweep. -/
import Derived.Test.YtfcbbahlhjdefaaGreatDoorFtW
import Derived.Test.YtfcbbahlhjdefaaGreatDoorDt
import Derived.Deep.AppendLies
import Derived.Deep.RegionLaw
import Derived.Test.YtfcbbahlhjdefaaGreatDoorDxAJ
import Derived.Test.YtfcbbahlhjdefaaGreatDoorSwV
namespace Go.Proofs.YtfcbbahlhjdefaaGreatDoor
open Go.RowKit
def kn (i j r c:Nat):Bool:=decide ((r<i∧c<i)∨(r=i∧c<j)∨(c=i∧r<j))
structure R4 where
 v0:Value
 v1:Value
 v2:Value
 v3:Value
abbrev R4.enc (r:R4):List Value:=[r.v0,r.v1,r.v2,r.v3]
def R4.ok (lo:Nat) (w:World) (r:R4) (b:Bx):Prop:=All2 (Sps lo w) [r.v0,r.v1,r.v2,r.v3] b
def Iss (lo:Nat) (w:World) (v:Value) (bs:List Bx):Prop:=∃ rs,SlFr lo 4 R4.enc w v rs∧All2 (R4.ok lo w) rs bs
theorem Iss.below {lo:Nat} {w w':World} {v:Value} {bs:List Bx} (h:Iss lo w v bs) (hb:Below w.heap.size w w'):Iss lo w' v bs :=
 let ⟨rs,h1,h2⟩:=h
 ⟨rs,h1.below hb,h2.mono (fun _ _ h=>(h.mono (fun _ _ h=>h.below hb):All2 _ _ _))⟩
theorem Iss.form {lo:Nat} {w:World} {v:Value} {bs:List Bx} (h:Iss lo w v bs):∃ a cap,v=.slice a bs.length cap∧bs.length≤cap∧cap≤maxLen:=by
 obtain ⟨rs,⟨a,cap,rfl,h1,h2,_⟩,h3⟩:=h
 exact ⟨a,cap,by rw [h3.1],by rw [← h3.1];exact h1,h2⟩
theorem Iss.at {lo:Nat} {w:World} {a:Option Addr} {n cap:Nat} {bs:List Bx} (h:Iss lo w (.slice a n cap) bs) {k:Nat} {f:Bx} (hk:bs[k]?=some f) :
  ∃ b o v0 v1 v2 v3,a=some ⟨b,o,none⟩∧b<w.heap.size∧w.cell? ⟨b,o+k*4,none⟩=some v0∧w.cell? ⟨b,o+k*4+1,none⟩=some v1∧w.cell? ⟨b,o+k*4+2,none⟩=some v2∧w.cell? ⟨b,o+k*4+3,none⟩=some v3∧All2 (Sps lo w) [v0,v1,v2,v3] f:=by
 obtain ⟨rs,⟨a',cap',he,_,_,hx⟩,h2⟩:=h
 obtain ⟨rfl,_,_⟩:=Value.slice.inj he
 obtain ⟨r,hr,hs⟩:=h2.left hk
 obtain ⟨b,o,ha,_,hb,hc⟩:=hx k r hr
 exact ⟨b,o,r.v0,r.v1,r.v2,r.v3,ha,hb,by simpa using hc 0 _ rfl,hc 1 _ rfl,hc 2 _ rfl,hc 3 _ rfl,hs⟩
theorem infoSd:(Tryz.prog.info? 83).map (fun i=>(i.zero,i.size,i.bytes))=some (some (.agg #[.slice none 0 0,.slice none 0 0,.slice none 0 0,.slice none 0 0]),4,96):=by kernel_rfl
theorem infoBx:(Tryz.prog.info? 41).map (fun i=>(i.zero,i.size,i.bytes))=some (some (.agg #[.slice none 0 0]),1,24):=by kernel_rfl
def fboxes (fs:List Ft):List Bx:=fs.map Ft.box
theorem fboxes_get {fs:List Ft} {k:Nat} {f:Ft} (h:fs[k]?=some f):(fboxes fs)[k]?=some f.box:=by simp [fboxes,h]
def IfsQ (Q:Value→List Sp→Prop) (lo:Nat) (w:World) (v:Value) (fs:List Ft):Prop:=∃ rs,SlFr lo 5 R5.enc w v rs∧All2 (fun (r:R5) (f:Ft)=>All2 Q [r.v0,r.v1,r.v2,r.v3] f.box∧r.acc=f.acc) rs fs
theorem Ifs.q {lo:Nat} {w:World} {v:Value} {fs:List Ft} (h:Ifs lo w v fs):IfsQ (Sps lo w) lo w v fs:=h
theorem IfsQ.form {Q:Value→List Sp→Prop} {lo:Nat} {w:World} {v:Value} {fs:List Ft} (h:IfsQ Q lo w v fs):∃ a cap,v=.slice a fs.length cap∧fs.length≤cap∧cap≤maxLen:=by
 obtain ⟨vs,⟨a,cap,rfl,h1,h2,_⟩,h3⟩:=h
 exact ⟨a,cap,by rw [h3.1],by rw [← h3.1];exact h1,h2⟩
theorem IfsQ.at {Q:Value→List Sp→Prop} {lo:Nat} {w:World} {a:Option Addr} {n cap:Nat} {fs:List Ft} (h:IfsQ Q lo w (.slice a n cap) fs) {k:Nat} {f:Ft} (hk:fs[k]?=some f) :
  ∃ b o v0 v1 v2 v3,a=some ⟨b,o,none⟩∧b<w.heap.size∧w.cell? ⟨b,o+k*5,none⟩=some v0∧w.cell? ⟨b,o+k*5+1,none⟩=some v1∧w.cell? ⟨b,o+k*5+2,none⟩=some v2∧w.cell? ⟨b,o+k*5+3,none⟩=some v3 ∧
   w.cell? ⟨b,o+k*5+4,none⟩=some (.bool f.acc)∧All2 Q [v0,v1,v2,v3] f.box:=by
 obtain ⟨rs,⟨a',cap',he,_,_,hx⟩,h2⟩:=h
 obtain ⟨rfl,_,_⟩:=Value.slice.inj he
 obtain ⟨r,hr,hs,hacc⟩:=h2.left hk
 obtain ⟨b,o,ha,_,hb,hc⟩:=hx k r hr
 exact ⟨b,o,r.v0,r.v1,r.v2,r.v3,ha,hb,by simpa using hc 0 _ rfl,hc 1 _ rfl,hc 2 _ rfl,hc 3 _ rfl,by rw [← hacc];exact hc 4 _ rfl,hs⟩
def QSl (Q:Value→List Sp→Prop):Prop:=∀ v xs,Q v xs→∃ a n c,v=.slice a n c
theorem QSl.sps (lo:Nat) (w:World):QSl (Sps lo w):=fun v xs h=>by
 obtain ⟨a,c,rfl, -, -⟩:=h.form
 exact ⟨_,_,_,rfl⟩
theorem QSl.form4 {Q:Value→List Sp→Prop} (hQ:QSl Q) {v0 v1 v2 v3:Value} {b:Bx} (h:All2 Q [v0,v1,v2,v3] b):∃ a0 n0 p0 a1 n1 p1 a2 n2 p2 a3 n3 p3,v0=.slice a0 n0 p0∧v1=.slice a1 n1 p1∧v2=.slice a2 n2 p2∧v3=.slice a3 n3 p3:=by
 have hl:b.length=4:=h.1.symm
 have key:∀ (j:Nat) v,[v0,v1,v2,v3][j]?=some v→∃ a n c,v=.slice a n c:=fun j v hj=>by
  have hlt:=(List.getElem?_eq_some_iff.1 hj).1
  exact hQ v _ (h.2 j v _ hj (List.getElem?_eq_getElem (by simp at hlt;omega)))
 obtain ⟨a0,n0,p0,e0⟩:=key 0 _ rfl
 obtain ⟨a1,n1,p1,e1⟩:=key 1 _ rfl
 obtain ⟨a2,n2,p2,e2⟩:=key 2 _ rfl
 obtain ⟨a3,n3,p3,e3⟩:=key 3 _ rfl
 exact ⟨a0,n0,p0,a1,n1,p1,a2,n2,p2,a3,n3,p3,e0,e1,e2,e3⟩
set_option maxHeartbeats 2000000 in
set_option maxRecDepth 100000 in
theorem wheresQ_any {lo:Nat} {Q:Value→List Sp→Prop} (hQ:QSl Q) (fs:List Ft) (v:Value) (w:World) (hs:IfsQ Q lo w v fs) (hl:fs.length≤1000000) :
  Calls Tryz.prog 37 #[v] w fun e w'=>∃ v',e=.returned v'∧(∃ rs,SlFr 0 4 R4.enc w' v' rs∧All2 (fun (r:R4) (b:Bx)=>All2 Q [r.v0,r.v1,r.v2,r.v3] b) rs (fboxes fs))∧Below w.heap.size w w':=by
 obtain ⟨a,cap,rfl,hlc,hcm⟩:=hs.form
 unfold maxLen at hcm
 generalize hn:fs.length=n at *
 have HN:=Lib.hid hn
 have HS:=Lib.hid hs
 obtain ⟨i0,hi,hy0,hy1,hy2⟩:=info_parts infoSd
 clear hn hs
 go_enter Tryz.func37,Tryz.ntmps37
 go_wp2_with (at_make;refine wpList_make_own _ rfl _ _ 78 rfl w.heap.size 83 i0 _ 4 Tryz.underlying78 hi hy0 hy1 _ _ _ n rfl rfl rfl ?b1 ?b2 ?b3 ?_)
 case b1=>rw [hy2];omega
 case b2=>simp only [maxLen];omega
 case b3=>omega
 intro w1 hown1 hgrow1
 have hb1:Below w.heap.size w w1:=bR.grown hgrow1 (Nat.le_refl _) (fun k hk=>by cases hk)
 have HO1:=Lib.hid (show OwnSl w.heap.size 83 4 R4.enc w1 (.slice (some ⟨w.heap.size,0,none⟩) 0 n) ([]:List R4) by simpa [OwnSl] using hown1)
 clear hown1 hgrow1
 go_wp2_with fail
 go_loopw [3,5,11] (fun o _ i wr=>∃ (k:Nat) (rs:List R4),k≤n∧i=.int .i64 k∧OwnSl w.heap.size 83 4 R4.enc wr o rs∧Hid (All2 (fun (r:R4) (b:Bx)=>All2 Q [r.v0,r.v1,r.v2,r.v3] b) rs ((fboxes fs).take k))∧Below w.heap.size w wr) (fun _ _ i _=>n - (intOf i).toNat)
 case atStart=>exact ⟨0,[],by omega,rfl,HO1.out,Lib.hid (by simpa using All2.nil),hb1⟩
 case round =>
  obtain ⟨k,rs,hk,rfl,hO,HR,hbr⟩:=hrel
  have HO:=Lib.hid hO
  clear hO HO1 hb1
  have hzr:=hbr.size
  by_cases hlt:k<n
  ·have i1:(k:Int)<(n:Int):=by omega
   have i2:(0:Int)≤(k:Int):=by omega
   obtain ⟨f,hx⟩:∃ f,fs[k]?=some f:=⟨_,List.getElem?_eq_getElem (by rw [HN.out];exact hlt)⟩
   obtain ⟨b,o,v0,v1,v2,v3,rfl,hbl,c0,c1,c2,c3,c4,hss⟩:=HS.out.at hx
   replace c0:=(hbr.cell (p:=⟨b,o+k*5,none⟩) hbl).trans c0
   replace c1:=(hbr.cell (p:=⟨b,o+k*5+1,none⟩) hbl).trans c1
   replace c2:=(hbr.cell (p:=⟨b,o+k*5+2,none⟩) hbl).trans c2
   replace c3:=(hbr.cell (p:=⟨b,o+k*5+3,none⟩) hbl).trans c3
   replace c4:=(hbr.cell (p:=⟨b,o+k*5+4,none⟩) hbl).trans c4
   replace hbl:=Nat.lt_of_lt_of_le hbl hzr
   obtain ⟨a0,n0,p0,a1,n1,p1,a2,n2,p2,a3,n3,p3,rfl,rfl,rfl,rfl⟩:=hQ.form4 hss
   have HXX:=Lib.hid (fboxes_get hx)
   have HSS:=Lib.hid hss
   have HBD:=Lib.hid (show rs.length≤1000000 by have:=HR.out.1;rw [List.length_take] at this;omega)
   clear hx hss
   go_wp2_with (at_builtin;refine wpList_append_own _ rfl _ _ 78 rfl w.heap.size 83 i0 _ 4 96 Tryz.underlying78 hi hy0 hy1 hy2 rfl (by decide) _ _ _ rfl (World.ownsRow.alloc (World.ownsRow.alloc HO.out _) _) ⟨wr.heap.size+1,0,none⟩ 1 1 (R4.enc ⟨.slice a0 n0 p0,.slice a1 n1 p1,.slice a2 n2 p2,.slice a3 n3 p3⟩) rfl rfl (cellsNew2 wr _ _ (R4.enc ⟨.slice a0 n0 p0,.slice a1 n1 p1,.slice a2 n2 p2,.slice a3 n3 p3⟩) _) ?c2 ?c3 ?c4 ?c5 ?_)
   case c2=>simp [Value.oneCell']
   case c3=>have:=HBD.out;simp only [maxLen];omega
   case c4=>have:=HBD.out;omega
   case c5=>simp;omega
   intro v' w5 hown5 hgrow5 _
   have hB:=belGrown ((hbr.alloc hzr _).alloc (by simp;omega) _) (World.ownsRow.alloc (World.ownsRow.alloc HO.out _) _) hgrow5 (by simp;omega)
   have HO6:=Lib.hid (OwnSl.pushed rfl hown5)
   have HR6:=Lib.hid (show All2 (fun (r:R4) (b:Bx)=>All2 Q [r.v0,r.v1,r.v2,r.v3] b) (rs++[⟨.slice a0 n0 p0,.slice a1 n1 p1,.slice a2 n2 p2,.slice a3 n3 p3⟩]) ((fboxes fs).take (k+1)) by
    rw [List.take_add_one,HXX.out]
    exact All2.snoc HR.out HSS.out)
   clear hown5 hgrow5
   go_wp2
   go_roundw
   case rel=>exact ⟨k+1,_,by omega,by go_num,HO6.out,HR6,hB⟩
   case measure=>simp [intOf];omega
  ·have hkn:k=n:=by omega
   go_wp2
   go_ret
   have hR:=HR.out
   rw [List.take_of_length_le (by simp [fboxes,HN.out];omega)] at hR
   exact ⟨u3,rfl,⟨rs,OwnSl.fr (sz:=4) (enc:=R4.enc) (fun _=>rfl) (OwnSl.mono HO.out (Nat.zero_le _)),hR⟩,hbr⟩
theorem wheres_any {lo:Nat} (fs:List Ft) (v:Value) (w:World) (hs:Ifs lo w v fs) (hl:fs.length≤1000000) :
  Calls Tryz.prog 37 #[v] w fun e w'=>∃ v',e=.returned v'∧Iss 0 w' v' (fboxes fs)∧Below w.heap.size w w':=by
 refine (wheresQ_any (QSl.sps lo w) fs v w hs.q hl).mono ?_
 rintro e w' ⟨v',rfl,⟨rs,h1,h2⟩,hb⟩
 exact ⟨v',rfl,⟨rs,h1,h2.mono (fun r b h=>(All2.mono h (fun _ _ h=>(h.below hb).mono (Nat.zero_le _)):All2 _ _ _))⟩,hb⟩
def BsO (lo:Nat) (w:World) (v:Value) (bs:List Bx):Prop :=
 ∃ vs,OwnSl lo 41 1 enc1 w v vs∧All2 (fun r b=>Rws lo (hole w v.ownBlock) r b) vs bs
theorem BsO.bxs {lo:Nat} {w:World} {v:Value} {bs:List Bx} (h:BsO lo w v bs):Bxs lo w v bs :=
 let ⟨vs,h1,h2⟩:=h
 ⟨vs,OwnSl.fr (sz:=1) (enc:=enc1) (fun _=>rfl) h1,h2.mono (fun _ _ h=>h.sub (Sb.out _ _ _))⟩
theorem BsO.push {lo:Nat} {w w2:World} {v v':Value} {bs:List Bx} {vs:List Value} {r:Value} {b:Bx} {H:Nat} (h1:All2 (fun r b=>Rws lo (hole w v.ownBlock) r b) vs bs)
  (hr:Rws lo (hole w v.ownBlock) r b) (hg:w.heap.size≤w2.heap.size∧∀ k,k<w.heap.size→some k≠v.ownBlock→w2.heap[k]?=w.heap[k]?)
  (hown:OwnSl lo 41 1 enc1 w2 v' (vs++[r])) (hat:∀ z,v'.ownBlock=some z→v.ownBlock=some z∨z=H) (hH:w.heap.size≤H):BsO lo w2 v' (bs++[b]):=by
 have hsb:Sb lo (hole w v.ownBlock) (hole w2 v'.ownBlock):=Sb.hole hg.1 (fun k _ k2 k3=>⟨fun e=>by
  rcases hat k e.symm with h | h
  ·exact k3 h.symm
  ·omega,hg.2 k k2 k3⟩)
 exact ⟨vs++[r],hown,(h1.mono (fun _ _ h=>h.sub hsb)).snoc (hr.sub hsb)⟩
set_option maxHeartbeats 2000000 in
set_option maxRecDepth 100000 in
theorem boxesOf_any {lo:Nat} (bs:List Bx) (v:Value) (w:World) (hs:Iss lo w v bs) (hl:bs.length≤1000000) (hle:∀ (k:Nat) b,bs[k]?=some b→∀ (j:Nat) xs,b[j]?=some xs→xs.length≤1000000) :
  Calls Tryz.prog 36 #[v] w fun e w'=>∃ v',e=.returned v'∧BsO w.heap.size w' v' bs∧Below w.heap.size w w':=by
 obtain ⟨a,cap,rfl,hlc,hcm⟩:=hs.form
 unfold maxLen at hcm
 generalize hn:bs.length=n at *
 have HN:=Lib.hid hn
 have HS:=Lib.hid hs
 obtain ⟨i0,hi,hy0,hy1,hy2⟩:=info_parts infoBx
 clear hn hs
 go_enter Tryz.func36,Tryz.ntmps36
 go_wp2_with (at_make;refine wpList_make_own _ rfl _ _ 35 rfl w.heap.size 41 i0 _ 1 Tryz.underlying35 hi hy0 hy1 _ _ _ n rfl rfl rfl ?b1 ?b2 ?b3 ?_)
 case b1=>rw [hy2];omega
 case b2=>simp only [maxLen];omega
 case b3=>omega
 intro w1 hown1 hgrow1
 have hb1:Below w.heap.size w w1:=bR.grown hgrow1 (Nat.le_refl _) (fun k hk=>by cases hk)
 have HO1:=Lib.hid (show BsO w.heap.size w1 (.slice (some ⟨w.heap.size,0,none⟩) 0 n) [] from ⟨[],by simpa [OwnSl] using hown1,All2.nil⟩)
 clear hown1 hgrow1
 go_wp2_with fail
 go_loopw [3,5,11] (fun o _ i wr=>∃ (k:Nat),k≤n∧i=.int .i64 k∧Hid (BsO w.heap.size wr o (bs.take k))∧Below w.heap.size w wr) (fun _ _ i _=>n - (intOf i).toNat)
 case atStart=>exact ⟨0,by omega,rfl,HO1,hb1⟩
 case round =>
  obtain ⟨k,hk,rfl,HO,hbr⟩:=hrel
  clear HO1 hb1
  have hzr:=hbr.size
  by_cases hlt:k<n
  ·have i1:(k:Int)<(n:Int):=by omega
   have i2:(0:Int)≤(k:Int):=by omega
   obtain ⟨f,hx⟩:∃ f,bs[k]?=some f:=⟨_,List.getElem?_eq_getElem (by rw [HN.out];exact hlt)⟩
   obtain ⟨b,o,v0,v1,v2,v3,rfl,hbl,c0,c1,c2,c3,hss⟩:=(HS.out.below hbr).at hx
   obtain ⟨a0,n0,p0,a1,n1,p1,a2,n2,p2,a3,n3,p3,rfl,rfl,rfl,rfl⟩:=sl4_form hss
   have HXX:=Lib.hid hx
   have HSS:=Lib.hid hss
   have HLF:=Lib.hid (hle k f hx)
   obtain ⟨vs,hvs,hal⟩:=HO.out
   obtain ⟨ua,uc,hu, -, -⟩:∃ a c,u3=.slice a vs.length c∧True∧True:=by
    rcases OwnSl.form hvs with ⟨h,h'⟩ | ⟨g,c,h,_⟩
    ·exact ⟨_,_,by rw [h,h'];rfl,trivial,trivial⟩
    ·exact ⟨_,_,h,trivial,trivial⟩
   subst hu
   have hown:∀ z,(Value.slice ua vs.length uc).ownBlock=some z→w.heap.size≤z∧z<wr.heap.size:=fun z hz=>World.ownsRow.lt hvs z hz
   have HVS:=Lib.hid hvs
   have HAL:=Lib.hid hal
   have HBD:=Lib.hid (show vs.length≤1000000 by have:=hal.1;rw [List.length_take] at this;omega)
   clear hx hss hvs hal
   have hal4:Below wr.heap.size wr (wr.alloc (.cells #[.slice a0 n0 p0,.slice a1 n1 p1,.slice a2 n2 p2,.slice a3 n3 p3] 83)):=bR.alloc (Nat.le_refl _) _
   go_wp2_with fail
   refine (box_any f _ _ _ _ wr _ HSS.out hal4 HLF.out).mono ?_
   rintro e w4 ⟨v4,rfl,ho4,hb4⟩
   have hw4:Below wr.heap.size wr w4:=hal4.trans (hb4.mono hal4.size)
   have hz4:=hw4.size
   have hr4:=ho4.g.rws
   simp only [World.size_alloc] at hr4
   obtain ⟨va4,vc4,rfl, -, -⟩:=hr4.form
   have HR4:=Lib.hid (show Rws w.heap.size (hole w4 (Value.slice ua vs.length uc).ownBlock) _ f from Rws.mono (hr4.sub (Sb.into (fun z hz=>by have:=(hown z hz).2;omega))) (by omega))
   have HVS4:=Lib.hid (OwnSl.kept HVS.out hw4)
   have HAL4:=Lib.hid (HAL.out.mono (fun _ _ h=>h.sub (Sb.hole hz4 (fun j _ j2 j3=>⟨j3,hw4.block j j2⟩))))
   clear ho4 hb4 hr4
   go_wp2_with (at_builtin;refine wpList_append_lies _ rfl _ _ 35 rfl w.heap.size 41 i0 _ 1 24 Tryz.underlying35 hi hy0 hy1 hy2 rfl (by decide) _ vs.length (vs.flatMap enc1) rfl (World.ownsRow.alloc HVS4.out _) ⟨w4.heap.size,0,none⟩ 1 1 (enc1 (.slice va4 f.length vc4)) rfl rfl (cellsNew w4 (enc1 (.slice va4 f.length vc4)) _) ?c2 (by decide) ?c3 ?c4 ?c5 _ rfl ?_)
   case c2=>simp [Value.oneCell']
   case c3=>have:=HBD.out;simp only [maxLen];omega
   case c4=>have:=HBD.out;omega
   case c5=>simp;omega
   intro g8 cap8 w8 hown8 hgrow8 hlies8 hlt8
   have hown9:OwnSl w.heap.size 41 1 enc1 w8 (.slice (some ⟨g8,0,none⟩) (vs.length+1) cap8) (vs++[.slice va4 f.length vc4]):=by unfold OwnSl;simpa using hown8
   have hF8:BsO w.heap.size w8 (.slice (some ⟨g8,0,none⟩) (vs.length+1) cap8) (bs.take k++[f]) :=
    BsO.push (w:=w4) (H:=w4.heap.size+1) HAL4.out HR4.out (grown_old hgrow8) hown9 (fun z hz=>by cases hz;simpa using hlies8) (by omega)
   have hB8:Below w.heap.size w w8:=belGrown ((hbr.trans (hw4.mono hzr)).alloc (by omega) _) (World.ownsRow.alloc HVS4.out _) hgrow8 (by simp;omega)
   have HF8:=Lib.hid (show BsO w.heap.size w8 (.slice (some ⟨g8,0,none⟩) (vs.length+1) cap8) (bs.take (k+1)) by rw [List.take_add_one,HXX.out];exact hF8)
   clear hown8 hgrow8 hlies8 hlt8 hown9 hF8
   go_wp2
   go_roundw
   case rel=>exact ⟨k+1,by omega,by go_num,HF8,hB8⟩
   case measure=>simp [intOf];omega
  ·have hkn:k=n:=by omega
   go_wp2
   go_ret
   have hR:=HO.out
   rw [List.take_of_length_le (by rw [HN.out];omega)] at hR
   exact ⟨_,rfl,hR,hbr⟩
def fbx (fs:List Ft):List Bx:=if fvalid fs then fboxes fs else []
set_option maxHeartbeats 1000000 in
theorem implFB_any {lo:Nat} (fs:List Ft) (v:Value) (w:World) (hs:Fts lo w v fs) (ht:Tab w) :
  Calls Tryz.prog 11 #[v] w fun e w'=>∃ v',e=.returned v'∧Bxs 0 w' v' (fbx fs)∧Below w.heap.size w w':=by
 cases hv:fvalid fs
 ·go_enter Tryz.func11,Tryz.ntmps11
  go_wp2_with fail
  refine (implFV_b hs ht hv).mono ?_
  rintro e w1 ⟨rfl,hb1⟩
  go_wp2
  go_ret
  refine ⟨_,rfl,?_,hb1⟩
  rw [fbx,hv]
  exact ⟨[],⟨none,0,rfl,by simp,by simp,fun k x h=>by simp at h⟩,All2.nil⟩
 ·have HV:=Lib.hid hv
  go_enter Tryz.func11,Tryz.ntmps11
  go_wp2_with fail
  refine (implFV_b hs ht hv).mono ?_
  rintro e w1 ⟨rfl,hb1⟩
  have hs1:=hs.below hb1
  go_wp2_with fail
  refine (flatsOf_any fs v _ hs1 (fvalid_four HV.out) (fvalid_len HV.out)).mono ?_
  rintro e w2 ⟨v2,rfl,ho2,hb2⟩
  have hw2:=hb1.trans (hb2.mono hb1.size)
  clear hb2
  go_wp2_with fail
  refine (wheres_any fs _ _ ho2 (fvalid_len HV.out)).mono ?_
  rintro e w3 ⟨v3,rfl,ho3,hb3⟩
  have hw3:=hw2.trans (hb3.mono hw2.size)
  clear hb3
  go_wp2_with fail
  refine (boxesOf_any (fboxes fs) _ _ ho3 (by have:=fvalid_len HV.out;simp [fboxes];omega) (fun k b hb j xs hx=>?_)).mono ?_
  ·simp only [fboxes,List.getElem?_map,Option.map_eq_some_iff] at hb
   obtain ⟨f,hf,rfl⟩:=hb
   have:=bvalid_lens (fvalid_at HV.out hf) j xs hx
   omega
  ·rintro e w4 ⟨v4,rfl,ho4,hb4⟩
   have hw4:=hw3.trans (hb4.mono hw3.size)
   have HO4:=Lib.hid ho4
   clear ho4
   go_wp2
   go_ret
   refine ⟨_,rfl,?_,hw4⟩
   rw [fbx,HV.out]
   obtain ⟨vs,g1,g2⟩:=HO4.out.bxs
   exact ⟨vs,SlFr.mono g1 (Nat.zero_le _),g2.mono (fun _ _ h=>h.mono (Nat.zero_le _))⟩
theorem sumTo_bound {α:Type} {f:α→Nat} {xs:List α} {C:Nat} (h:∀ (k:Nat) x,xs[k]?=some x→f x≤C):∀ n,sumTo f xs n≤n*C
 | 0=>by simp [sumTo_zero]
 | n+1=>by
  have ih:=sumTo_bound (f:=f) h n
  rw [Nat.add_mul]
  cases hx:xs[n]? with
  | none =>
   have e:sumTo f xs (n+1)=sumTo f xs n:=by
    have:=List.getElem?_eq_none_iff.1 hx
    unfold sumTo
    rw [List.take_of_length_le this,List.take_of_length_le (by omega)]
   omega
  | some x =>
   have:=h n x hx
   rw [sumTo_succ hx]
   omega
end Go.Proofs.YtfcbbahlhjdefaaGreatDoor
namespace Go.Proofs.YtfcbbahlhjdefaaGreatDoor
open Go.RowKit
def slim (xs:List Sp):List Sp:=if xs.length≤40 then xs else []
set_option maxHeartbeats 1000000 in
theorem limit_any {base:Nat} (xs:List Sp) (v:Value) (w:World) (hs:OwnSp base w v xs) :
  Calls Tryz.prog 106 #[v] w fun e w'=>(∃ z,e=.returned (.tuple #[z,.bool (decide (xs.length≤40))])∧OwnSp base w z (slim xs))∧w=w':=by
 obtain ⟨a,cap,rfl,hlc,hcm⟩:=hs.sps.form
 unfold maxLen at hcm
 unfold slim
 by_cases h:xs.length≤40
 ·rw [if_pos h,decide_eq_true h]
  have HS:=Lib.hid hs
  clear hs
  generalize xs.length=n at *
  have h2:¬ (40:Int)<(n:Int):=by omega
  go_enter Tryz.func106,Tryz.ntmps106
  go_wp2
  go_ret2
  exact ⟨⟨_,rfl,HS.out⟩,rfl⟩
 ·rw [if_neg h,decide_eq_false h]
  have h2:(40:Int)<(xs.length:Int):=by omega
  clear hs
  generalize xs.length=n at *
  go_enter Tryz.func106,Tryz.ntmps106
  go_wp2
  go_ret2
  exact ⟨⟨_,rfl,World.ownsRow_nil _ _ _ _⟩,rfl⟩
def RetLim (ys:List Sp) (w:World) (e:Ending) (w':World):Prop:=∃ z r,e=.returned (.tuple #[z,.bool r])∧r=decide (ys.length≤40)∧OwnSp w.heap.size w' z (slim ys)∧Below w.heap.size w w'
set_option maxHeartbeats 1000000 in
theorem meetSpans_any {lo lo':Nat} (xs ys:List Sp) (u v:Value) (t:Int) (w:World) (hs:Sps lo w u xs) (ht:Sps lo' w v ys) (gx:sgood t 0 xs=true) (gy:sgood t 0 ys=true) (t0:0≤t) (t1:t≤65535) :
  Calls Tryz.prog 76 #[u,v,.int .i64 t] w (RetLim (smeet xs ys) w):=by
 go_enter Tryz.func76,Tryz.ntmps76
 go_wp2_with fail
 refine (sweepMeet_any xs ys u v t w hs ht gx gy t0 t1).mono ?_
 rintro e w1 ⟨z,rfl,zs,hsw,ho,hb⟩
 obtain rfl:=hsw.meet gx gy
 go_wp2_with fail
 refine (limit_any _ _ _ ho).mono ?_
 rintro e _ ⟨⟨z2,rfl,ho2⟩,rfl⟩
 obtain ⟨r,hr⟩:∃ r,decide ((smeet xs ys).length≤40)=r:=⟨_,rfl⟩
 rw [hr]
 have HO:=Lib.hid ho2
 have HR:=Lib.hid hr
 clear ho ho2 hr hsw
 go_wp2_with fail
 go_ret2
 exact ⟨_,_,rfl,HR.out.symm,HO.out,hb⟩
set_option maxHeartbeats 1000000 in
theorem lessSpans_any {lo lo':Nat} (xs ys:List Sp) (u v:Value) (t:Int) (w:World) (hs:Sps lo w u xs) (ht:Sps lo' w v ys) (gx:sgood t 0 xs=true) (gy:sgood t 0 ys=true) (t0:0≤t) (t1:t≤65535) :
  Calls Tryz.prog 142 #[u,v,.int .i64 t] w (RetLim (smeet xs (sother t 0 ys)) w):=by
 go_enter Tryz.func142,Tryz.ntmps142
 go_wp2_with fail
 refine (sweepLess_any xs ys u v t w hs ht gx gy t0 t1).mono ?_
 rintro e w1 ⟨z,rfl,zs,hsw,ho,hb⟩
 obtain rfl:=hsw.less gx gy
 go_wp2_with fail
 refine (limit_any _ _ _ ho).mono ?_
 rintro e _ ⟨⟨z2,rfl,ho2⟩,rfl⟩
 obtain ⟨r,hr⟩:∃ r,decide ((smeet xs (sother t 0 ys)).length≤40)=r:=⟨_,rfl⟩
 rw [hr]
 have HO:=Lib.hid ho2
 have HR:=Lib.hid hr
 clear ho ho2 hr hsw
 go_wp2_with fail
 go_ret2
 exact ⟨_,_,rfl,HR.out.symm,HO.out,hb⟩
theorem meetSpans_r {lo lo':Nat} {xs ys L:List Sp} {u v:Value} {t:Int} {w:World} {r:Bool} (hL:smeet xs ys=L) (hr:decide (L.length≤40)=r) (hs:Sps lo w u xs) (ht:Sps lo' w v ys) (gx:sgood t 0 xs=true) (gy:sgood t 0 ys=true) (t0:0≤t) (t1:t≤65535) :
  Calls Tryz.prog 76 #[u,v,.int .i64 t] w fun e w'=>∃ z,e=.returned (.tuple #[z,.bool r])∧OwnSp w.heap.size w' z (slim L)∧Below w.heap.size w w':=by
 subst hL
 refine (meetSpans_any xs ys u v t w hs ht gx gy t0 t1).mono ?_
 rintro e w' ⟨z,r',rfl,rfl,ho,hb⟩
 subst hr
 exact ⟨z,rfl,ho,hb⟩
theorem lessSpans_r {lo lo':Nat} {xs ys L:List Sp} {u v:Value} {t:Int} {w:World} {r:Bool} (hL:smeet xs (sother t 0 ys)=L) (hr:decide (L.length≤40)=r) (hs:Sps lo w u xs) (ht:Sps lo' w v ys) (gx:sgood t 0 xs=true) (gy:sgood t 0 ys=true) (t0:0≤t) (t1:t≤65535) :
  Calls Tryz.prog 142 #[u,v,.int .i64 t] w fun e w'=>∃ z,e=.returned (.tuple #[z,.bool r])∧OwnSp w.heap.size w' z (slim L)∧Below w.heap.size w w':=by
 subst hL
 refine (lessSpans_any xs ys u v t w hs ht gx gy t0 t1).mono ?_
 rintro e w' ⟨z,r',rfl,rfl,ho,hb⟩
 subst hr
 exact ⟨z,rfl,ho,hb⟩
def SpV (P:Nat→Prop) (w:World) (v:Value) (xs:List Sp):Prop:=Sps 0 w v xs∧∀ q n c,v=.slice (some q) n c→xs≠[]→¬ P q.block
theorem SpV.keep {P P':Nat→Prop} {w w':World} {v:Value} {xs:List Sp} (h:SpV P w v xs) (hz:w.heap.size≤w'.heap.size) (hk:∀ k,k<w.heap.size→¬ P k→w'.heap[k]?=w.heap[k]?∧¬ P' k):SpV P' w' v xs:=by
 obtain ⟨⟨a,cap,rfl,h1,h2,hx⟩,hp⟩:=h
 refine ⟨⟨a,cap,rfl,h1,h2,fun k x hk'=>?_⟩,fun q n c e hne=>?_⟩
 ·obtain ⟨b,o,ha,h3,h4,hc⟩:=hx k x hk'
  subst ha
  have hP:=hp _ _ _ rfl (by intro e;subst e;simp at hk')
  exact ⟨b,o,rfl,h3,by omega,fun j u hj=>(World.cell?_of_block (hk b h4 hP).1).trans (hc j u hj)⟩
 ·obtain ⟨x,hx0⟩:∃ x,xs[0]?=some x:=⟨_,List.getElem?_eq_getElem (List.length_pos_iff.2 hne)⟩
  obtain ⟨b,o,ha,h3,h4,hc⟩:=hx 0 x hx0
  subst ha
  obtain ⟨e1, -, -⟩:=Value.slice.inj e
  cases e1
  exact (hk b h4 (hp _ _ _ rfl hne)).2
theorem SpV.old {P:Nat→Prop} {lo:Nat} {w0 w:World} {v:Value} {xs:List Sp} (h:Sps lo w0 v xs) (hb:Below w0.heap.size w0 w) (hP:∀ k,P k→w0.heap.size≤k):SpV P w v xs:=by
 refine ⟨(h.mono (Nat.zero_le _)).below hb,fun q n c e hne hp=>?_⟩
 obtain ⟨a,cap,rfl,h1,h2,hx⟩:=h
 obtain ⟨x,hx0⟩:∃ x,xs[0]?=some x:=⟨_,List.getElem?_eq_getElem (List.length_pos_iff.2 hne)⟩
 obtain ⟨b,o,ha,h3,h4,hc⟩:=hx 0 x hx0
 subst ha
 obtain ⟨e1, -, -⟩:=Value.slice.inj e
 cases e1
 have:=hP _ hp
 simp only at this
 omega
theorem SpV.older {P X:Nat→Prop} {w0 w:World} {v:Value} {xs:List Sp} (h:SpV X w0 v xs) (hb:Below w0.heap.size w0 w) (hP:∀ k,P k→w0.heap.size≤k∨X k):SpV P w v xs:=by
 refine ⟨h.1.below hb,fun q n c e hne hp=>?_⟩
 rcases hP _ hp with h1 | h1
 ·exact (SpV.old (P:=fun k=>w0.heap.size≤k) h.1 hb (fun _ h=>h)).2 q n c e hne h1
 ·exact h.2 q n c e hne h1
theorem SpV.sub {P P':Nat→Prop} {w:World} {v:Value} {xs:List Sp} (h:SpV P w v xs) (hP:∀ k,P' k→P k):SpV P' w v xs:=⟨h.1,fun q n c e hne hp=>h.2 q n c e hne (hP _ hp)⟩
theorem SpV.below {P:Nat→Prop} {w w':World} {v:Value} {xs:List Sp} (h:SpV P w v xs) (hb:Below w.heap.size w w'):SpV P w' v xs:=h.keep hb.size (fun k k1 k2=>⟨hb.block k k1,k2⟩)
theorem SpV.own {P:Nat→Prop} {base:Nat} {w:World} {v:Value} {xs:List Sp} (h:OwnSp base w v xs) (hP:∀ k,P k→k<base):SpV P w v xs:=by
 refine ⟨(OwnSp.sps h).mono (Nat.zero_le _),fun q n c e hne hp=>?_⟩
 rcases OwnSl.form h with ⟨_,h'⟩ | ⟨g,c',h',hg,_⟩
 ·exact hne h'
 ·rw [e] at h'
  obtain ⟨e1, -, -⟩:=Value.slice.inj h'
  cases e1
  have:=hP _ hp
  simp only at this
  omega
theorem SpV.sps {P:Nat→Prop} {w:World} {v:Value} {xs:List Sp} (h:SpV P w v xs):Sps 0 w v xs:=h.1
theorem SpV.of_hole {w:World} {v:Value} {xs:List Sp} {g:Option Nat} {lo:Nat} (h:Sps lo (Go.Proofs.YtfcbbahlhjdefaaGreatDoor.hole w g) v xs):SpV (fun k=>some k=g) w v xs:=by
 obtain ⟨a,cap,rfl,h1,h2,hx⟩:=h
 refine ⟨⟨a,cap,rfl,h1,h2,fun k x hk'=>?_⟩,fun q n c e hne hp=>?_⟩
 ·obtain ⟨b,o,ha,h3,h4,hc⟩:=hx k x hk'
  exact ⟨b,o,ha,Nat.zero_le _,by rw [hole_size] at h4;exact h4,fun j u hj=>(hole_cell.1 (hc j u hj)).2⟩
 ·obtain ⟨x,hx0⟩:∃ x,xs[0]?=some x:=⟨_,List.getElem?_eq_getElem (List.length_pos_iff.2 hne)⟩
  obtain ⟨b,o,ha,h3,h4,hc⟩:=hx 0 x hx0
  subst ha
  obtain ⟨e1, -, -⟩:=Value.slice.inj e
  cases e1
  exact (hole_cell.1 (hc 0 _ rfl)).1 hp
theorem bempty_meet {a b:Bx} (ha:a.length=4) (hb:b.length=4) (h:bempty a=true):bempty (bmeet a b)=true:=by
 rw [← Bool.not_eq_false,bempty_iff (bmeet_len ha hb)]
 intro g
 rw [← Bool.not_eq_false,bempty_iff ha] at h
 refine h (fun n hn=>?_)
 have:=g n hn
 obtain ⟨x,hx⟩:∃ x,a[n]?=some x:=⟨_,List.getElem?_eq_getElem (by omega)⟩
 obtain ⟨y,hy⟩:∃ y,b[n]?=some y:=⟨_,List.getElem?_eq_getElem (by omega)⟩
 rw [getD_get (bmeet_get hx hy)] at this
 rw [getD_get hx]
 cases x with
 | nil=>exact this
 | cons s x=>rfl
set_option maxHeartbeats 1000000 in
theorem empty_b {lo:Nat} {a:Bx} {v0 v1 v2 v3:Value} {w:World} {r:Bool} (hs:All2 (Sps lo w) [v0,v1,v2,v3] a) (h:bempty a=r) :
  Calls Tryz.prog 42 #[.agg #[v0,v1,v2,v3]] w fun e w'=>e=.returned (.bool r)∧Below w.heap.size w w':=by
 have hal:Below w.heap.size w (w.alloc (.cells #[v0,v1,v2,v3] 83)):=bR.alloc (Nat.le_refl _) _
 have H4:=Lib.hid (show a.length=4 from hs.1.symm)
 have HS:=Lib.hid hs
 have HR:=Lib.hid h
 clear hs h
 go_enter Tryz.func42,Tryz.ntmps42
 go_wp2_with fail
 go_loopw [4,6] (fun _ i wr=>∃ k:Nat,k≤4∧i=.int .i64 k∧Hid (∀ (j:Nat) xs,j<k→a[j]?=some xs→xs.isEmpty=false)∧Below w.heap.size w wr) (fun _ i _=>4 - (intOf i).toNat)
 case atStart=>exact ⟨0,by omega,rfl,Lib.hid (fun j xs hj=>by omega),hal⟩
 case round =>
  obtain ⟨k,hk,rfl,HG,hbr⟩:=hrel
  by_cases hlt:k<4
  ·have i1:(k:Int)<4:=by omega
   have i2:(0:Int)≤(k:Int):=by omega
   obtain ⟨xs,hx⟩:∃ xs,a[k]?=some xs:=⟨_,List.getElem?_eq_getElem (by rw [H4.out];exact hlt)⟩
   obtain ⟨sv,hsv,hss⟩:=HS.out.left hx
   have hxi:∀ w:World,(Instr.index 83 (.agg #[v0,v1,v2,v3]) (.int .i64 (k:Int))).run Tryz.prog w=.ok sv w:=by
    intro w
    rcases (by omega:k=0∨k=1∨k=2∨k=3) with rfl | rfl | rfl | rfl<;>(cases hsv;kernel_rfl)
   obtain ⟨sa,sc,rfl, -, -⟩:=hss.form
   have HX:=Lib.hid hx
   clear hx hss hsv
   cases hv:xs.isEmpty
   ·have HV:=Lib.hid hv
    have hne:((xs.length:Int)==0)=false:=by
     cases xs with
     | nil=>simp at hv
     | cons x xs=>simp;omega
    clear hv
    go_wp2
    go_roundw
    case rel =>
     refine ⟨k+1,by omega,by go_num,Lib.hid (fun j ys hj hy=>?_),hbr⟩
     by_cases e:j=k
     ·subst e;rw [HX.out] at hy;cases hy;exact HV.out
     ·exact HG.out j ys (by omega) hy
    case measure=>simp [intOf];omega
   ·have HE:=Lib.hid (bempty_yes HX.out hv)
    obtain rfl:xs=[]:=by simpa using hv
    clear hv
    go_wp2
    go_ret
    exact ⟨ret_bool (by rw [← HR.out];exact HE.out.symm),hbr⟩
  ·have hkn:k=4:=by omega
   have HE:=Lib.hid (bempty_no (b:=a) (fun j xs hj=>HG.out j xs (by have:=(List.getElem?_eq_some_iff.1 hj).1;rw [H4.out] at this;omega) hj))
   subst hkn
   go_wp2
   go_ret
   exact ⟨ret_bool (by rw [← HR.out];exact HE.out.symm),hbr⟩
end Go.Proofs.YtfcbbahlhjdefaaGreatDoor
