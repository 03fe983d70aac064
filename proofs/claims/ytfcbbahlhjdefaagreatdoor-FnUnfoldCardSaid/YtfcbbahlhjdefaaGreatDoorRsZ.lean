/- RulesetValid of the program. -/
import Derived.Test.YtfcbbahlhjdefaaGreatDoorRsW
import Derived.Test.YtfcbbahlhjdefaaGreatDoorDt
namespace Go.Proofs.YtfcbbahlhjdefaaGreatDoor
open Go.RowKit
structure Col (w:World) (B:Nat) (col:List Nat):Prop where
 lt:B<w.heap.size
 c:∀ y,y<5→w.cell? ⟨B,y,none⟩=some (.int .i64 ((col.getD y 0:Nat):Int))
 f:∀ y,w.frozen? ⟨B,y,none⟩=false
theorem Col.below {w w':World} {B:Nat} {col:List Nat} (h:Col w B col) (hb:Below w.heap.size w w'):Col w' B col :=
 ⟨Nat.lt_of_lt_of_le h.lt hb.size,fun y hy=>(hb.cell (p:=⟨B,y,none⟩) h.lt).trans (h.c y hy),fun y=>(hb.frozen (p:=⟨B,y,none⟩) h.lt).trans (h.f y)⟩
theorem Col.set {w:World} {B:Nat} {col:List Nat} (h:Col w B col) {c a:Nat} (hl:col.length=5) (hc:c<5):Col (w.setCell ⟨B,c,none⟩ (.int .i64 ((a:Nat):Int))) B (col.set c a):=by
 refine ⟨by simpa using h.lt,fun y hy=>?_,fun y=>by rw [World.frozen?_setCell];exact h.f y⟩
 rw [getD_set (by omega)]
 by_cases e:c=y
 ·subst e
  rw [if_pos rfl]
  exact World.cell?_setCell_same' _ _ _ (by rw [h.c c hc];rfl)
 ·rw [if_neg e,World.cell?_setCell_other _ _ _ _ (by simp)]
  exact h.c y hy
theorem vfold_snoc {v:Nat→List Nat→Bool × List Nat}:∀ (l:List Nat) (x:Nat) (b:Bool) (col:List Nat),vfold v (l++[x]) b col=((vfold v l b col).1 && (v x (vfold v l b col).2).1,(v x (vfold v l b col).2).2)
 | [],_,_,_=>rfl
 | y::l,x,b,col=>by
  rw [List.cons_append]
  unfold vfold
  exact vfold_snoc l x _ _
theorem callsAt_eq {cs:List (List Ru)} {c:Nat} {l:List Ru} (h:cs[c]?=some l):callsAt cs c=calls l:=by unfold callsAt;rw [getD_get h]
theorem calls_lt {l:List Ru} {x:Nat} (h:x∈calls l):x<5:=by
 unfold calls at h
 rw [List.mem_filter,List.mem_range] at h
 exact h.1
set_option maxHeartbeats 4000000 in
set_option maxRecDepth 100000 in
theorem visit_any {lo:Nat} (cs:List (List Ru)) (_hn:cs.length≤5) (hv:∀ l,l∈cs→rusvalid l=true) (v:Value) (w0:World) (hs:Rss lo w0 v cs) (B:Nat) (hB:w0.heap.size≤B) :
  ∀ (f c:Nat) (col:List Nat) (w:World),Below w0.heap.size w0 w→Col w B col→col.length=5→whites col<f→c<5 →
   Calls Tryz.prog 91 #[v,.int .i64 (c:Int),.pointer (some ⟨B,0,none⟩)] w fun e w'=>e=.returned (.bool (visit cs f c col).1)∧Col w' B (visit cs f c col).2∧Mv B w.heap.size w w':=by
 obtain ⟨va,vc,rfl,hlc,hcm⟩:=hs.form
 unfold maxLen at hcm
 intro f
 induction f with
 | zero=>intro c col w _ _ _ h _;omega
 | succ f ih =>
  intro c col w hb0 hC hl5 hw hc5
  obtain ⟨n,hnn⟩:∃ n,cs.length=n:=⟨_,rfl⟩
  rw [hnn] at ih
  have HIH:=Lib.hid ih
  have HS:=Lib.hid (hs.below hb0)
  have HV:=Lib.hid hv
  have HC:=Lib.hid hC
  have hlB:=hC.lt
  clear ih
  have HN:=Lib.hid hnn
  by_cases hge:n≤c
  ·have HU:=Lib.hid (show visit cs (f+1) c col=(true,col) by unfold visit;rw [if_pos (by omega)])
   have i1:(n:Int)≤(c:Int):=by omega
   rw [hnn] at hs HS ⊢
   go_enter Tryz.func91,Tryz.ntmps91
   go_wp2
   go_ret
   exact ⟨ret_bool (by rw [HU.out]),by rw [HU.out];exact HC.out,Mv.refl _ _ _⟩
  ·have i1:¬ (n:Int)≤(c:Int):=by omega
   have i0:(0:Int)≤(c:Int):=by omega
   have i5:(c:Int)<5:=by omega
   have cc:=hC.c c hc5
   have cf:=hC.f c
   by_cases h1:col.getD c 0=1
   ·have HU:=Lib.hid (show visit cs (f+1) c col=(false,col) by unfold visit;rw [if_neg (by omega),if_pos h1])
    rw [h1] at cc
    rw [hnn] at hs HS ⊢
    go_enter Tryz.func91,Tryz.ntmps91
    go_wp2
    go_ret
    exact ⟨ret_bool (by rw [HU.out]),by rw [HU.out];exact HC.out,Mv.refl _ _ _⟩
   ·by_cases h2:col.getD c 0=2
    ·have HU:=Lib.hid (show visit cs (f+1) c col=(true,col) by unfold visit;rw [if_neg (by omega),if_neg h1,if_pos h2])
     rw [h2] at cc
     rw [hnn] at hs HS ⊢
     go_enter Tryz.func91,Tryz.ntmps91
     go_wp2
     go_ret
     exact ⟨ret_bool (by rw [HU.out]),by rw [HU.out];exact HC.out,Mv.refl _ _ _⟩
    ·have HU:=Lib.hid (show visit cs (f+1) c col=((vfold (visit cs f) (callsAt cs c) true (col.set c 1)).1,(vfold (visit cs f) (callsAt cs c) true (col.set c 1)).2.set c 2) by
      conv=>lhs;unfold visit
      rw [if_neg (by omega),if_neg h1,if_neg h2])
     obtain ⟨g,hg⟩:∃ g,col.getD c 0=g:=⟨_,rfl⟩
     rw [hg] at cc
     have g1:((g:Int)==1)=false:=by simp;omega
     have g2:((g:Int)==2)=false:=by simp;omega
     obtain ⟨l,hx⟩:∃ l,cs[c]?=some l:=⟨_,List.getElem?_eq_getElem (by omega)⟩
     have HX:=Lib.hid (callsAt_eq hx)
     have hlv:=HV.out l (List.mem_of_getElem? hx)
     have HLV:=Lib.hid (show ∀ (k:Nat) r,l[k]?=some r→r.ok=true from fun k r hr=>by
      unfold rusvalid at hlv
      rw [Bool.and_eq_true,List.all_eq_true] at hlv
      exact hlv.1 r (List.mem_of_getElem? hr))
     have hwl:=whites_lt col c 1 (by decide) (by omega) (show wht (col.getD c 0)=true by unfold wht;simp only [Bool.and_eq_true,bne_iff_ne];exact ⟨h1,h2⟩)
     obtain ⟨W1,hW1⟩:∃ W1,w.setCell ⟨B,c,none⟩ (.int .i64 1)=W1:=⟨_,rfl⟩
     have hC1:Col W1 B (col.set c 1):=by rw [← hW1];exact HC.out.set (a:=1) hl5 hc5
     have hm1:Mv B w.heap.size w W1:=by rw [← hW1];exact Mv.set B _ w c _
     have hz1:W1.heap.size=w.heap.size:=by rw [← hW1];simp
     have hb1:Below w0.heap.size w0 W1:=hb0.trans (hm1.below hb0.size hB)
     have HS1:=Lib.hid (hs.below hb1)
     obtain ⟨b,o,sv,rfl,hbl,c0,hsv⟩:=HS1.out.at hx
     have HSV:=Lib.hid hsv
     have HC1:=Lib.hid hC1
     rw [hnn] at hs HS HS1 ⊢
     clear hx hlv hsv hC1 hC h1 h2 hg
     have hC0:0=0:=rfl
     go_enter Tryz.func91,Tryz.ntmps91
     go_wp2_with fail
     refine (callsIn_any l sv W1 HSV.out HLV.out).mono ?_
     rintro e w2 ⟨v2,rfl,ho2,hb2⟩
     have HO2:=Lib.hid ho2
     obtain ⟨xa,xc,rfl,hxl,hxm⟩:=HO2.out.ins.formI
     unfold maxLen at hxm
     have hm2:Mv B w.heap.size w w2:=hm1.trans (Mv.of_below (hb2.mono (by omega)))
     have hz2:=hb2.size
     have HC2:=Lib.hid (HC1.out.below hb2)
     clear ho2 HC1 hb2 hW1
     obtain ⟨xs,hxs⟩:∃ xs,calls l=xs:=⟨_,rfl⟩
     have HXS:=Lib.hid hxs
     rw [hxs] at HO2 hxl ⊢
     have HLT:=Lib.hid (show ∀ x,x∈xs→x<5 from fun x hx=>calls_lt (hxs ▸ hx))
     clear hxs
     rw [List.length_map] at HO2 hxl ⊢
     obtain ⟨m,hm⟩:∃ m,xs.length=m:=⟨_,rfl⟩
     have HM:=Lib.hid hm
     rw [hm] at HO2 hxl ⊢
     clear hm
     go_wp2_with fail
     go_loopw [7,9,33] (fun fr _ i wr=>∃ k:Nat,k≤m∧i=.int .i64 k∧fr=.bool (vfold (visit cs f) (xs.take k) true (col.set c 1)).1∧Hid (Col wr B (vfold (visit cs f) (xs.take k) true (col.set c 1)).2)∧Hid (OwnIn W1.heap.size wr (.slice xa m xc) (xs.map (fun c:Nat=>(c:Int))))∧Mv B w.heap.size w wr∧w2.heap.size≤wr.heap.size) (fun _ _ i _=>m - (intOf i).toNat)
     case atStart=>exact ⟨0,by omega,rfl,rfl,HC2,HO2,hm2,Nat.le_refl _⟩
     case round =>
      obtain ⟨k,hk,rfl,rfl,HCr,HIr,hmr,hzr⟩:=hrel
      have hzw:=hmr.size
      by_cases hlt:k<m
      ·have j1:(k:Int)<(m:Int):=by omega
       have j2:(0:Int)≤(k:Int):=by omega
       obtain ⟨x,hx⟩:∃ x,xs[k]?=some x:=⟨_,List.getElem?_eq_getElem (by rw [HM.out];exact hlt)⟩
       obtain ⟨bb,oo,rfl,hbl2,d0⟩:=HIr.out.ins.atI (k:=k) (x:=(x:Int)) (by rw [List.getElem?_map,hx];rfl)
       have hx5:x<5:=HLT.out x (List.mem_of_getElem? hx)
       have HSN:=Lib.hid (show vfold (visit cs f) (xs.take (k+1)) true (col.set c 1)=((vfold (visit cs f) (xs.take k) true (col.set c 1)).1 && (visit cs f x (vfold (visit cs f) (xs.take k) true (col.set c 1)).2).1,(visit cs f x (vfold (visit cs f) (xs.take k) true (col.set c 1)).2).2) by
        rw [List.take_add_one,hx]
        exact vfold_snoc _ _ _ _)
       have hlen:=vfold_len (v:=visit cs f) (visit_len f) (xs.take k) true (col.set c 1)
       have hwh:=vfold_whites (v:=visit cs f) (visit_whites f) (xs.take k) true (col.set c 1)
       obtain ⟨P,hP⟩:∃ P,vfold (visit cs f) (xs.take k) true (col.set c 1)=P:=⟨_,rfl⟩
       rw [hP] at HCr HSN hlen hwh ⊢
       obtain ⟨pb,pcol⟩:=P
       simp only at HCr HSN hlen hwh ⊢
       rw [List.length_set] at hlen
       obtain ⟨Q,hQ⟩:∃ Q,visit cs f x pcol=Q:=⟨_,rfl⟩
       have HQ:=Lib.hid hQ
       have hbr0:Below w0.heap.size w0 wr:=hb0.trans (hmr.below hb0.size hB)
       clear hP hx hQ
       go_wp2_with fail
       refine (HIH.out x pcol wr hbr0 HCr.out (by omega) (by omega) hx5).mono ?_
       rw [HQ.out]
       rw [HQ.out] at HSN
       obtain ⟨qb,qcol⟩:=Q
       simp only at HSN ⊢
       rintro e w3 ⟨rfl,hC3,hm3⟩
       have HC3:=Lib.hid (show Col w3 B (vfold (visit cs f) (xs.take (k+1)) true (col.set c 1)).2 by rw [HSN.out];exact hC3)
       have HI3:=Lib.hid (show OwnIn W1.heap.size w3 (.slice (some ⟨bb,oo,none⟩) m xc) (xs.map (fun c:Nat=>(c:Int))) from OwnSl.keepB HIr.out (fun z _ z1 z2=>hm3.block z z2 (by omega)))
       have hmw:Mv B w.heap.size w w3:=hmr.trans (hm3.mono hzw)
       have hz3:=hm3.size
       clear hC3 hm3
       cases qb
       ·go_wp2
        go_roundw
        case rel=>exact ⟨k+1,by omega,by go_num,by rw [HSN.out];simp,HC3,HI3,hmw,by omega⟩
        case measure=>simp [intOf];omega
       ·go_wp2
        go_roundw
        case rel=>exact ⟨k+1,by omega,by go_num,by rw [HSN.out];simp,HC3,HI3,hmw,by omega⟩
        case measure=>simp [intOf];omega
      ·have hkm:k=m:=by omega
       subst hkm
       have HTK:=Lib.hid (show xs.take k=xs by rw [List.take_of_length_le (by rw [HM.out];exact Nat.le_refl _)])
       rw [HTK.out] at HCr ⊢
       have HUU:=Lib.hid (show visit cs (f+1) c col=((vfold (visit cs f) xs true (col.set c 1)).1,(vfold (visit cs f) xs true (col.set c 1)).2.set c 2) by rw [HU.out,HX.out,HXS.out])
       have hlen:=vfold_len (v:=visit cs f) (visit_len f) xs true (col.set c 1)
       rw [List.length_set] at hlen
       obtain ⟨P,hP⟩:∃ P,vfold (visit cs f) xs true (col.set c 1)=P:=⟨_,rfl⟩
       rw [hP] at HCr HUU hlen ⊢
       obtain ⟨pb,pcol⟩:=P
       simp only at HCr HUU hlen ⊢
       have e0:=HCr.out.c c hc5
       have e1:=HCr.out.f c
       have eB:=HCr.out.lt
       have HCf:=Lib.hid (HCr.out.set (c:=c) (a:=2) (by omega) hc5)
       have hmf:Mv B w.heap.size w (wr.setCell ⟨B,c,none⟩ (.int .i64 2)):=hmr.trans (Mv.set B _ wr c _)
       clear hP HTK
       go_wp2
       go_ret
       exact ⟨ret_bool (by rw [HUU.out]),by rw [HUU.out];exact HCf.out,hmf⟩
set_option maxHeartbeats 2000000 in
set_option maxRecDepth 100000 in
theorem acyclic_any {lo:Nat} (cs:List (List Ru)) (hn:cs.length≤5) (hv:∀ l,l∈cs→rusvalid l=true) (v:Value) (w:World) (hs:Rss lo w v cs) :
  Calls Tryz.prog 60 #[v] w fun e w'=>e=.returned (.bool (acycl cs 6 (List.range cs.length) [0,0,0,0,0]))∧Below w.heap.size w w':=by
 obtain ⟨va,vc,rfl,hlc,hcm⟩:=hs.form
 unfold maxLen at hcm
 obtain ⟨W,hW⟩:∃ W,w.alloc (.cells #[.int .i64 0,.int .i64 0,.int .i64 0,.int .i64 0,.int .i64 0] 142)=W:=⟨_,rfl⟩
 have hal:Below w.heap.size w W:=by rw [← hW];exact bR.alloc (Nat.le_refl _) _
 have HC0:=Lib.hid (show Col W w.heap.size [0,0,0,0,0] from ⟨by rw [← hW];simp,fun y hy=>by
  rw [← hW]
  match y,hy with
  | 0,_=>simp
  | 1,_=>simp
  | 2,_=>simp
  | 3,_=>simp
  | 4,_=>simp
  | y+5,h=>omega,fun y=>by rw [← hW];exact frz_new w _ _ y⟩)
 have HS:=Lib.hid hs
 have HV:=Lib.hid hv
 obtain ⟨n,hnn⟩:∃ n,cs.length=n:=⟨_,rfl⟩
 have HN:=Lib.hid hnn
 obtain ⟨R,hR⟩:∃ R,acycl cs 6 (List.range cs.length) [0,0,0,0,0]=R:=⟨_,rfl⟩
 have HR:=Lib.hid hR
 have hR0:acycl cs 6 ((List.range cs.length).drop 0) [0,0,0,0,0]=R:=hR
 have HR0:=Lib.hid hR0
 have hn5:n≤5:=by omega
 rw [hR]
 rw [hnn] at hs ⊢
 have HS2:=Lib.hid hs
 clear hR hs hv hR0 HS
 go_enter Tryz.func60,Tryz.ntmps60
 go_wp2_with fail
 go_loopw [4,7] (fun _ i wr=>∃ (k:Nat) (col:List Nat),k≤n∧i=.int .i64 k∧Hid (Col wr w.heap.size col)∧col.length=5∧Hid (acycl cs 6 ((List.range cs.length).drop k) col=R)∧Below w.heap.size w wr) (fun _ i _=>n - (intOf i).toNat)
 case atStart=>exact ⟨0,_,by omega,rfl,HC0,rfl,HR0,hal⟩
 case round =>
  obtain ⟨k,col,hk,rfl,HC,hl5,HRk,hbr⟩:=hrel
  clear HC0 HR0
  have hzr:=hbr.size
  by_cases hlt:k<n
  ·have j1:(k:Int)<(n:Int):=by omega
   have j2:(0:Int)≤(k:Int):=by omega
   have hcl:=HC.out.lt
   have hst:acycl cs 6 ((List.range cs.length).drop k) col=((visit cs 6 k col).1 && acycl cs 6 ((List.range cs.length).drop (k+1)) (visit cs 6 k col).2):=by
    rw [List.drop_eq_getElem_cons (by rw [List.length_range,HN.out];exact hlt),List.getElem_range]
    rfl
   have hwh:whites col≤col.length:=List.countP_le_length
   have hlv:=visit_len (cs:=cs) 6 k col
   obtain ⟨Q,hQ⟩:∃ Q,visit cs 6 k col=Q:=⟨_,rfl⟩
   rw [hQ] at hst hlv
   rw [HRk.out] at hst
   have HQ:=Lib.hid hQ
   have HST:=Lib.hid hst
   clear hst hQ
   go_wp2_with fail
   refine (visit_any cs (by rw [HN.out];exact hn5) HV.out _ w HS2.out w.heap.size (Nat.le_refl _) 6 k col wr hbr HC.out hl5 (by omega) (by omega)).mono ?_
   rw [HQ.out]
   obtain ⟨qb,qcol⟩:=Q
   simp only at HST hlv ⊢
   rintro e w3 ⟨rfl,hC3,hm3⟩
   have HC3:=Lib.hid hC3
   have hb3:Below w.heap.size w w3:=hbr.trans (hm3.below hzr (Nat.le_refl _))
   clear hC3 hm3
   cases qb
   ·have HF:=Lib.hid (show R=false by rw [HST.out];rfl)
    go_wp2
    go_ret
    exact ⟨ret_bool HF.out.symm,hb3⟩
   ·have HT:=Lib.hid (show acycl cs 6 ((List.range cs.length).drop (k+1)) qcol=R by rw [HST.out];simp)
    go_wp2
    go_roundw
    case rel=>exact ⟨k+1,qcol,by omega,by go_num,HC3,by omega,HT,hb3⟩
    case measure=>simp [intOf];omega
  ·have HF:=Lib.hid (show R=true by
    rw [← HRk.out,List.drop_of_length_le (by rw [List.length_range,HN.out];omega)]
    rfl)
   go_wp2
   go_ret
   exact ⟨ret_bool HF.out.symm,hbr⟩
def callsOk (cs:List (List Ru)):Bool:=cs.all (fun l=>(calls l).all (fun c=>decide (c<cs.length)))
def rsvalid (cs:List (List Ru)):Bool:=inB cs.length 1 5 && cs.all rusvalid && callsOk cs && acycl cs 6 (List.range cs.length) [0,0,0,0,0]
end Go.Proofs.YtfcbbahlhjdefaaGreatDoor
namespace Go.Proofs.YtfcbbahlhjdefaaGreatDoor
open Go.RowKit
set_option maxHeartbeats 2000000 in
set_option maxRecDepth 100000 in
theorem specTsG_any {lo:Nat} (xs:List Te) (v:Value) (w:World) (hs:Tss lo w v xs) :
  Calls Tryz.prog 99 #[v] w fun e w'=>e=.returned (.bool (tsvalid xs))∧Below w.heap.size w w':=by
 obtain ⟨a,cap,rfl,hlc,hcm⟩:=hs.form
 unfold maxLen at hcm
 generalize hn:xs.length=n at *
 have HN:=Lib.hid hn
 have HS:=Lib.hid hs
 clear hn hs
 go_enter Tryz.func99,Tryz.ntmps99
 go_wp2_with fail
 go_loopw [3] (fun i wr=>∃ k:Nat,k≤n∧i=.int .i64 k∧Hid ((xs.take k).all Te.ok=true)∧Below w.heap.size w wr) (fun i _=>n - (intOf i).toNat)
 case atStart=>exact ⟨0,by omega,rfl,Lib.hid (by simp),Below.refl _ _⟩
 case round =>
  obtain ⟨k,hk,rfl,HG,hbr⟩:=hrel
  have hzr:=hbr.size
  by_cases hlt:k<n
  ·have i1:(k:Int)<(n:Int):=by omega
   have i2:(0:Int)≤(k:Int):=by omega
   obtain ⟨b,o,f,tl,th,q,rfl,hbl,hx,c0,c1,c2,c3⟩:=((HS.out.below hbr).z).at (show k<xs.length by rw [HN.out];exact hlt)
   obtain ⟨r,hr⟩:∃ r,(⟨f,tl,th,q⟩:Te).ok=r:=⟨_,rfl⟩
   have HR:=Lib.hid hr
   have HX:=Lib.hid hx
   clear hx hr
   go_wp2_with fail
   refine (specTV_b (show tvalid1 f tl th=r from HR.out) _).mono ?_
   rintro e w2 ⟨rfl,hb2⟩
   have hw2:Below w.heap.size w w2:=hbr.trans (hb2.mono hzr)
   clear hb2
   cases r
   ·have HF:=Lib.hid (show tsvalid xs=false by
     unfold tsvalid
     rw [List.all_eq_false.2 ⟨_,List.mem_of_getElem? HX.out,by rw [HR.out];simp⟩,Bool.false_and])
    go_wp2
    go_ret
    exact ⟨ret_bool HF.out.symm,hw2⟩
   ·have HG2:=Lib.hid (show (xs.take (k+1)).all Te.ok=true by rw [List.take_add_one,HX.out,Option.toList_some,List.all_append,HG.out,List.all_cons,HR.out];simp)
    go_wp2
    go_roundw
    case rel=>exact ⟨k+1,by omega,by go_num,HG2,hw2⟩
    case measure=>simp [intOf];omega
  ·have HF:=Lib.hid (show tsvalid xs=decide ((n:Int)≤6) by
    unfold tsvalid
    have:=HG.out
    rw [List.take_of_length_le (by rw [HN.out];omega)] at this
    rw [this,HN.out,Bool.true_and]
    by_cases e:n≤6
    ·rw [decide_eq_true e,decide_eq_true (by omega)]
    ·rw [decide_eq_false e,decide_eq_false (by omega)])
   go_wp2
   go_ret
   exact ⟨ret_bool HF.out.symm,hbr⟩
theorem specTsG_b {lo:Nat} {xs:List Te} {v:Value} {w:World} {r:Bool} (hs:Tss lo w v xs) (h:tsvalid xs=r) :
  Calls Tryz.prog 99 #[v] w fun e w'=>e=.returned (.bool r)∧Below w.heap.size w w':=by
 subst h
 exact specTsG_any xs v w hs
set_option maxHeartbeats 2000000 in
set_option maxRecDepth 100000 in
theorem specRuV_b {lo:Nat} {ts:List Te} {a c:Int} {v:Value} {w:World} {r:Bool} (hs:Tss lo w v ts) (h:(⟨ts,a,c⟩:Ru).ok=r) :
  Calls Tryz.prog 98 #[.agg #[v,.int .i64 a,.int .i64 c]] w fun e w'=>e=.returned (.bool r)∧Below w.heap.size w w':=by
 obtain ⟨sa,sc,rfl, -, -⟩:=hs.form
 obtain ⟨W,hW⟩:∃ W,w.alloc (.cells #[.slice sa ts.length sc,.int .i64 a,.int .i64 c] 101)=W:=⟨_,rfl⟩
 have hal:Below w.heap.size w W:=by rw [← hW];exact bR.alloc (Nat.le_refl _) _
 have hl:w.heap.size<W.heap.size:=by rw [← hW];simp
 have q0:W.cell? ⟨w.heap.size,0,none⟩=some (.slice sa ts.length sc):=by rw [← hW];simp
 have q1:W.cell? ⟨w.heap.size,1,none⟩=some (.int .i64 a):=by rw [← hW];simp
 have q2:W.cell? ⟨w.heap.size,2,none⟩=some (.int .i64 c):=by rw [← hW];simp
 have HS:=Lib.hid (hs.below hal)
 rw [ruok_eq] at h
 obtain ⟨rt,hrt⟩:∃ r,tsvalid ts=r:=⟨_,rfl⟩
 obtain ⟨ra,hra⟩:∃ r,inB a 1 5=r:=⟨_,rfl⟩
 obtain ⟨rc,hrc⟩:∃ r,inB c 0 4=r:=⟨_,rfl⟩
 rw [hrt,hra,hrc] at h
 have HR:=Lib.hid h
 have HRT:=Lib.hid hrt
 have HRA:=Lib.hid hra
 have HRC:=Lib.hid hrc
 clear hs h hrt hra hrc
 go_enter Tryz.func98,Tryz.ntmps98
 go_wp2_with fail
 refine (specTsG_b HS.out HRT.out).mono ?_
 rintro e w1 ⟨rfl,hb1⟩
 have hw1:=hal.trans (hb1.mono hal.size)
 have p1:=(hb1.cell (p:=⟨w.heap.size,1,none⟩) hl).trans q1
 have p2:=(hb1.cell (p:=⟨w.heap.size,2,none⟩) hl).trans q2
 have hl1:=Nat.lt_of_lt_of_le hl hb1.size
 clear q0 q1 q2 hb1
 cases rt
 ·obtain rfl:r=false:=by rw [← HR.out];simp
  go_wp2
  go_ret
  exact ⟨rfl,hw1⟩
 ·go_wp2_with fail
  refine (l1In_b HRA.out _).mono ?_
  rintro e _ ⟨rfl,rfl⟩
  cases ra
  ·obtain rfl:r=false:=by rw [← HR.out];simp
   go_wp2
   go_ret
   exact ⟨rfl,hw1⟩
  ·by_cases h3:a=3
   ·subst h3
    go_wp2_with fail
    refine (l1In_b HRC.out _).mono ?_
    rintro e _ ⟨rfl,rfl⟩
    cases rc
    ·obtain rfl:r=false:=by rw [← HR.out];simp
     go_wp2
     go_ret
     exact ⟨rfl,hw1⟩
    ·obtain rfl:r=true:=by rw [← HR.out];simp
     go_wp2
     go_ret
     exact ⟨rfl,hw1⟩
   ·have h3b:(a==3)=false:=by simpa using h3
    have h3c:(a != 3)=true:=by simpa using h3
    obtain ⟨z,hz⟩:∃ z:Bool,(c==0)=z:=⟨_,rfl⟩
    obtain rfl:r=z:=by rw [← HR.out,h3b,h3c,hz];simp
    have HZ:=Lib.hid hz
    cases r
    ·go_wp2
     go_ret
     exact ⟨rfl,hw1⟩
    ·go_wp2
     go_ret
     exact ⟨rfl,hw1⟩
set_option maxHeartbeats 2000000 in
set_option maxRecDepth 100000 in
theorem specRsG_any {lo:Nat} (xs:List Ru) (v:Value) (w:World) (hs:Rus lo w v xs) :
  Calls Tryz.prog 64 #[v] w fun e w'=>e=.returned (.bool (rusvalid xs))∧Below w.heap.size w w':=by
 obtain ⟨a,cap,rfl,hlc,hcm⟩:=hs.form
 unfold maxLen at hcm
 generalize hn:xs.length=n at *
 have HN:=Lib.hid hn
 have HS:=Lib.hid hs
 clear hn hs
 go_enter Tryz.func64,Tryz.ntmps64
 go_wp2_with fail
 go_loopw [3] (fun i wr=>∃ k:Nat,k≤n∧i=.int .i64 k∧Hid ((xs.take k).all Ru.ok=true)∧Below w.heap.size w wr) (fun i _=>n - (intOf i).toNat)
 case atStart=>exact ⟨0,by omega,rfl,Lib.hid (by simp),Below.refl _ _⟩
 case round =>
  obtain ⟨k,hk,rfl,HG,hbr⟩:=hrel
  have hzr:=hbr.size
  by_cases hlt:k<n
  ·have i1:(k:Int)<(n:Int):=by omega
   have i2:(0:Int)≤(k:Int):=by omega
   obtain ⟨x,hx⟩:∃ x,xs[k]?=some x:=⟨_,List.getElem?_eq_getElem (by rw [HN.out];exact hlt)⟩
   obtain ⟨b,o,sv,rfl,hbl,c0,c1,c2,hsv⟩:=(HS.out.below hbr).at hx
   obtain ⟨sa,sc,rfl, -, -⟩:=hsv.form
   obtain ⟨ts,ra,rc⟩:=x
   simp only at c0 c1 c2 hsv
   have HSV:=Lib.hid hsv
   clear hsv
   obtain ⟨r,hr⟩:∃ r,(⟨ts,ra,rc⟩:Ru).ok=r:=⟨_,rfl⟩
   have HR:=Lib.hid hr
   have HX:=Lib.hid hx
   clear hx hr
   go_wp2_with fail
   refine (specRuV_b HSV.out HR.out).mono ?_
   rintro e w2 ⟨rfl,hb2⟩
   have hw2:Below w.heap.size w w2:=hbr.trans (hb2.mono hzr)
   clear hb2
   cases r
   ·have HF:=Lib.hid (show rusvalid xs=false by
     unfold rusvalid
     rw [List.all_eq_false.2 ⟨_,List.mem_of_getElem? HX.out,by rw [HR.out];simp⟩,Bool.false_and])
    go_wp2
    go_ret
    exact ⟨ret_bool HF.out.symm,hw2⟩
   ·have HG2:=Lib.hid (show (xs.take (k+1)).all Ru.ok=true by rw [List.take_add_one,HX.out,Option.toList_some,List.all_append,HG.out,List.all_cons,HR.out];simp)
    go_wp2
    go_roundw
    case rel=>exact ⟨k+1,by omega,by go_num,HG2,hw2⟩
    case measure=>simp [intOf];omega
  ·have HF:=Lib.hid (show rusvalid xs=decide ((n:Int)≤8) by
    unfold rusvalid
    have:=HG.out
    rw [List.take_of_length_le (by rw [HN.out];omega)] at this
    rw [this,HN.out,Bool.true_and]
    by_cases e:n≤8
    ·rw [decide_eq_true e,decide_eq_true (by omega)]
    ·rw [decide_eq_false e,decide_eq_false (by omega)])
   go_wp2
   go_ret
   exact ⟨ret_bool HF.out.symm,hbr⟩
theorem specRsG_b {lo:Nat} {xs:List Ru} {v:Value} {w:World} {r:Bool} (hs:Rus lo w v xs) (h:rusvalid xs=r) :
  Calls Tryz.prog 64 #[v] w fun e w'=>e=.returned (.bool r)∧Below w.heap.size w w':=by
 subst h
 exact specRsG_any xs v w hs
end Go.Proofs.YtfcbbahlhjdefaaGreatDoor
namespace Go.Proofs.YtfcbbahlhjdefaaGreatDoor
open Go.RowKit
theorem rusvalid_ok {l:List Ru} (h:rusvalid l=true) (k:Nat) (r:Ru) (hr:l[k]?=some r):r.ok=true:=by
 unfold rusvalid at h
 rw [Bool.and_eq_true,List.all_eq_true] at h
 exact h.1 r (List.mem_of_getElem? hr)
set_option maxHeartbeats 4000000 in
set_option maxRecDepth 100000 in
theorem implRstV_any {lo:Nat} (cs:List (List Ru)) (acc:Bool) (v:Value) (w:World) (hs:Rss lo w v cs) (ht:Tab w) :
  Calls Tryz.prog 27 #[.agg #[v,.bool acc]] w fun e w'=>e=.returned (.bool (rsvalid cs))∧Below w.heap.size w w':=by
 obtain ⟨va,vc,rfl,hlc,hcm⟩:=hs.form
 unfold maxLen at hcm
 obtain ⟨n,hnn⟩:∃ n,cs.length=n:=⟨_,rfl⟩
 have HN:=Lib.hid hnn
 rw [hnn] at hs hlc ⊢
 obtain ⟨W,hW⟩:∃ W,w.alloc (.cells #[.slice va n vc,.bool acc] 25)=W:=⟨_,rfl⟩
 have hal:Below w.heap.size w W:=by rw [← hW];exact bR.alloc (Nat.le_refl _) _
 have hl:w.heap.size<W.heap.size:=by rw [← hW];simp
 have q0:W.cell? ⟨w.heap.size,0,none⟩=some (.slice va n vc):=by rw [← hW];simp
 have HQ:=Lib.hid q0
 have HS:=Lib.hid (hs.below hal)
 have HT:=Lib.hid (ht.below hal)
 clear hs ht hnn
 by_cases hb:n<1∨5<n
 ·have HF:=Lib.hid (show rsvalid cs=false by
   unfold rsvalid
   rw [HN.out,inB_and]
   rcases hb with h | h
   ·rw [decide_eq_false (show ¬ (1:Int)≤(n:Int) by omega)];simp
   ·rw [decide_eq_false (show ¬ (n:Int)≤5 by omega)];simp)
  by_cases h1:n<1
  ·have j1:(n:Int)<1:=by omega
   go_enter Tryz.func27,Tryz.ntmps27
   go_wp2
   go_ret
   exact ⟨ret_bool HF.out.symm,hal⟩
  ·have j1:¬ (n:Int)<1:=by omega
   have j2:5<(n:Int):=by omega
   go_enter Tryz.func27,Tryz.ntmps27
   go_wp2
   go_ret
   exact ⟨ret_bool HF.out.symm,hal⟩
 ·have j1:¬ (n:Int)<1:=by omega
  have j2:¬ 5<(n:Int):=by omega
  have hn5:n≤5:=by omega
  have HI:=Lib.hid (show inB cs.length 1 5=true by rw [HN.out,inB_iff];omega)
  go_enter Tryz.func27,Tryz.ntmps27
  go_wp2_with fail
  clear q0
  go_loopw [4,22] (fun _ i wr=>∃ k:Nat,k≤n∧i=.int .i64 k∧Hid ((cs.take k).all rusvalid=true)∧Below W.heap.size W wr) (fun _ i _=>n - (intOf i).toNat)
  case atStart=>exact ⟨0,by omega,rfl,Lib.hid (by simp),Below.refl _ _⟩
  case round =>
   obtain ⟨k,hk,rfl,HG,hbr⟩:=hrel
   have hzr:=hbr.size
   have c9:=(hbr.cell (p:=⟨w.heap.size,0,none⟩) hl).trans HQ.out
   by_cases hlt:k<n
   ·have i1:(k:Int)<(n:Int):=by omega
    have i2:(0:Int)≤(k:Int):=by omega
    obtain ⟨l,hx⟩:∃ l,cs[k]?=some l:=⟨_,List.getElem?_eq_getElem (by rw [HN.out];exact hlt)⟩
    obtain ⟨b,o,sv,rfl,hbl,c0,hsv⟩:=(HS.out.below hbr).at hx
    have HX:=Lib.hid hx
    have HSV:=Lib.hid hsv
    have HTR:=Lib.hid (HT.out.below hbr)
    obtain ⟨r,hr⟩:∃ r,rusvalid l=r:=⟨_,rfl⟩
    have HR:=Lib.hid hr
    clear hx hsv hr
    go_wp2_with fail
    refine (implRsV_b HSV.out HTR.out HR.out).mono ?_
    rintro e w2 ⟨rfl,hb2⟩
    have hb2':Below W.heap.size W w2:=hbr.trans (hb2.mono hzr)
    clear hb2
    cases r
    ·have HF:=Lib.hid (show rsvalid cs=false by
      unfold rsvalid
      rw [List.all_eq_false.2 ⟨_,List.mem_of_getElem? HX.out,by rw [HR.out];simp⟩];simp)
     go_wp2
     go_ret
     exact ⟨ret_bool HF.out.symm,hal.trans (hb2'.mono hal.size)⟩
    ·have HG2:=Lib.hid (show (cs.take (k+1)).all rusvalid=true by rw [List.take_add_one,HX.out,Option.toList_some,List.all_append,HG.out,List.all_cons,HR.out];simp)
     go_wp2
     go_roundw
     case rel=>exact ⟨k+1,by omega,by go_num,HG2,hb2'⟩
     case measure=>simp [intOf];omega
   ·have HA:=Lib.hid (show cs.all rusvalid=true by
     have:=HG.out
     rwa [List.take_of_length_le (by rw [HN.out];omega)] at this)
    have HAM:=Lib.hid (show ∀ l,l∈cs→rusvalid l=true from List.all_eq_true.1 HA.out)
    clear HG
    obtain ⟨W0,hW0⟩:∃ W0,W0=wr:=⟨_,rfl⟩
    subst hW0
    go_wp2_with fail
    go_loopw [6,33] (fun _ i wr=>∃ k:Nat,k≤n∧i=.int .i64 k∧Hid ((cs.take k).all (fun l=>(calls l).all (fun c=>decide (c<n)))=true)∧Below W0.heap.size W0 wr) (fun _ i _=>n - (intOf i).toNat)
    case atStart=>exact ⟨0,by omega,rfl,Lib.hid (by simp),Below.refl _ _⟩
    case round =>
     obtain ⟨j,hj,rfl,HG,hbs⟩:=hrel
     have hzs:=hbs.size
     have hbW:Below W.heap.size W wr:=hbr.trans (hbs.mono hzr)
     have d9:=(hbW.cell (p:=⟨w.heap.size,0,none⟩) hl).trans HQ.out
     have hlw:w.heap.size<wr.heap.size:=Nat.lt_of_lt_of_le hl hbW.size
     by_cases hlj:j<n
     ·have i1:(j:Int)<(n:Int):=by omega
      have i2:(0:Int)≤(j:Int):=by omega
      obtain ⟨l,hx⟩:∃ l,cs[j]?=some l:=⟨_,List.getElem?_eq_getElem (by rw [HN.out];exact hlj)⟩
      obtain ⟨b,o,sv,rfl,hbl,c0,hsv⟩:=(HS.out.below hbW).at hx
      have HX:=Lib.hid hx
      have HSV:=Lib.hid hsv
      have HLO:=Lib.hid (rusvalid_ok (HAM.out l (List.mem_of_getElem? hx)))
      clear hx hsv
      go_wp2_with fail
      refine (callsIn_any l sv wr HSV.out HLO.out).mono ?_
      rintro e w2 ⟨v2,rfl,ho2,hb2⟩
      have HI2:=Lib.hid ho2.ins
      obtain ⟨xa,xc,rfl,hxl,hxm⟩:=HI2.out.formI
      unfold maxLen at hxm
      rw [List.length_map] at HI2 hxl ⊢
      obtain ⟨xs,hxs⟩:∃ xs,calls l=xs:=⟨_,rfl⟩
      have HXS:=Lib.hid hxs
      rw [hxs] at HI2 hxl ⊢
      obtain ⟨m,hm⟩:∃ m,xs.length=m:=⟨_,rfl⟩
      have HM:=Lib.hid hm
      rw [hm] at HI2 hxl ⊢
      have hb2':Below W0.heap.size W0 w2:=hbs.trans (hb2.mono hzs)
      have e9:=(hb2.cell (p:=⟨w.heap.size,0,none⟩) hlw).trans d9
      have hlw2:=Nat.lt_of_lt_of_le hlw hb2.size
      clear ho2 hm hxs hb2
      have hw2s:=hb2'.size
      obtain ⟨W2,hW2⟩:∃ W2,W2=w2:=⟨_,rfl⟩
      subst hW2
      go_wp2_with fail
      go_loopw [8,40] (fun _ i wr=>∃ k:Nat,k≤m∧i=.int .i64 k∧Hid ((xs.take k).all (fun c=>decide (c<n))=true)∧wr=W2) (fun _ i _=>m - (intOf i).toNat)
      case atStart=>exact ⟨0,by omega,rfl,Lib.hid (by simp),rfl⟩
      case round =>
       obtain ⟨p,hp,rfl,HP,rfl⟩:=hrel
       by_cases hlp:p<m
       ·have p1:(p:Int)<(m:Int):=by omega
        have p2:(0:Int)≤(p:Int):=by omega
        obtain ⟨x,hx⟩:∃ x,xs[p]?=some x:=⟨_,List.getElem?_eq_getElem (by rw [HM.out];exact hlp)⟩
        obtain ⟨bb,oo,rfl,hbl2,d0⟩:=HI2.out.atI (k:=p) (x:=(x:Int)) (by rw [List.getElem?_map,hx];rfl)
        have HXX:=Lib.hid hx
        clear hx
        by_cases hxn:x<n
        ·have x1:¬ (n:Int)≤(x:Int):=by omega
         have HP2:=Lib.hid (show (xs.take (p+1)).all (fun c=>decide (c<n))=true by rw [List.take_add_one,HXX.out,Option.toList_some,List.all_append,HP.out,List.all_cons,decide_eq_true hxn];simp)
         go_wp2
         go_roundw
         case rel=>exact ⟨p+1,by omega,by go_num,HP2,by first | rfl | trivial⟩
         case measure=>simp [intOf];omega
        ·have x1:(n:Int)≤(x:Int):=by omega
         have HF:=Lib.hid (show rsvalid cs=false by
          have hco:callsOk cs=false:=by
           unfold callsOk
           rw [HN.out]
           refine List.all_eq_false.2 ⟨l,List.mem_of_getElem? HX.out,?_⟩
           rw [HXS.out,List.all_eq_false.2 ⟨x,List.mem_of_getElem? HXX.out,by rw [decide_eq_false hxn];simp⟩]
           simp
          unfold rsvalid
          rw [hco]
          simp)
         go_wp2
         go_ret
         exact ⟨ret_bool HF.out.symm,hal.trans ((hbr.trans (hb2'.mono hzr)).mono hal.size)⟩
       ·have HPF:=Lib.hid (show (calls l).all (fun c=>decide (c<n))=true by
         rw [HXS.out]
         have:=HP.out
         rwa [List.take_of_length_le (by rw [HM.out];omega)] at this)
        have HG2:=Lib.hid (show (cs.take (j+1)).all (fun l=>(calls l).all (fun c=>decide (c<n)))=true by rw [List.take_add_one,HX.out,Option.toList_some,List.all_append,HG.out,List.all_cons,HPF.out];simp)
        go_wp2
        go_roundw
        case rel=>exact ⟨j+1,by omega,by go_num,HG2,hb2'⟩
        case measure=>simp [intOf];omega
     ·have HCO:=Lib.hid (show callsOk cs=true by
       unfold callsOk
       rw [HN.out]
       have:=HG.out
       rwa [List.take_of_length_le (by rw [HN.out];omega)] at this)
      have HSR:=Lib.hid (HS.out.below hbW)
      obtain ⟨R,hR⟩:∃ R,acycl cs 6 (List.range cs.length) [0,0,0,0,0]=R:=⟨_,rfl⟩
      have HRV:=Lib.hid (show rsvalid cs=R by unfold rsvalid;rw [HI.out,HA.out,HCO.out,hR];rfl)
      have HRR:=Lib.hid hR
      clear hR
      go_wp2_with fail
      refine (acyclic_any cs (by rw [HN.out];exact hn5) HAM.out _ wr HSR.out).mono ?_
      rw [HRR.out]
      rintro e w3 ⟨rfl,hb3⟩
      have hw3:Below w.heap.size w w3:=(hal.trans (hbW.mono hal.size)).trans (hb3.mono (Nat.le_trans hal.size hbW.size))
      clear hb3
      go_wp2
      go_ret
      exact ⟨ret_bool HRV.out.symm,hw3⟩
theorem implRstV_b {lo:Nat} {cs:List (List Ru)} {acc:Bool} {v:Value} {w:World} {r:Bool} (hs:Rss lo w v cs) (ht:Tab w) (h:rsvalid cs=r) :
  Calls Tryz.prog 27 #[.agg #[v,.bool acc]] w fun e w'=>e=.returned (.bool r)∧Below w.heap.size w w':=by
 subst h
 exact implRstV_any cs acc v w hs ht
end Go.Proofs.YtfcbbahlhjdefaaGreatDoor
