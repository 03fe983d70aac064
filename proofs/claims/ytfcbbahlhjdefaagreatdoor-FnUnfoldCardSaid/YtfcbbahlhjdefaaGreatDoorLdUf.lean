/- The law FnUnfold: the walk. -/
import Derived.Test.YtfcbbahlhjdefaaGreatDoorJwH
import Derived.Test.YtfcbbahlhjdefaaGreatDoorBeX
import Derived.Test.YtfcbbahlhjdefaaGreatDoorDrU
import Derived.Test.YtfcbbahlhjdefaaGreatDoorRgA
import Derived.Test.YtfcbbahlhjdefaaGreatDoorDxAJ
namespace Go.Proofs.YtfcbbahlhjdefaaGreatDoor
open Go.RowKit
structure C2u (w:World) (b:Nat) (u v:Value):Prop where
 l:b<w.heap.size
 c0:w.cell? ⟨b,0,none⟩=some u
 c1:w.cell? ⟨b,1,none⟩=some v
theorem C2u.bel {w w':World} {b:Nat} {u v:Value} (h:C2u w b u v) (hb:Below w.heap.size w w'):C2u w' b u v:=⟨Nat.lt_of_lt_of_le h.l hb.size,(hb.cell (p:=⟨b,0,none⟩) h.l).trans h.c0,(hb.cell (p:=⟨b,1,none⟩) h.l).trans h.c1⟩
theorem code_bel {w w':World} {v:Value} {bs:List Int} (h:CodeAt w v bs) (hb:Below w.heap.size w w'):CodeAt w' v bs:=⟨h.1.below hb,h.2⟩
theorem C2u.new (w:World) (u v:Value) (ty:TypeId):C2u (w.alloc (.cells #[u,v] ty)) w.heap.size u v:=⟨by simp,by simp,by simp⟩
theorem implBMt_u {lo lo':Nat} {a b M:Bx} {u v:Value} {w:World} (hs:Rws lo w u a) (hu:Rws lo' w v b) (ht:Tab w) (h:meetV a b=some M) :
  Calls Tryz.prog 14 #[.agg #[u],.agg #[v]] w fun e w'=>∃ z,e=.returned (.agg #[z])∧Rws 0 w' z M∧Below w.heap.size w w':=by
 refine (implBMt_e hs hu ht h).mono ?_
 rintro e w' ⟨z,rfl,h1,h2⟩
 exact ⟨z,rfl,(GRw.rws h1).mono (Nat.zero_le _),h2⟩
set_option maxHeartbeats 4000000 in
set_option maxRecDepth 100000 in
theorem law_FnUnfold (bs bs2:List Int) (v v2:Value) (w:World) (h:CodeAt w v bs) (h2:CodeAt w v2 bs2) (ht:Tab w) :
  Calls Tryz.prog 3 #[v,v2] w fun e w'=>e=.returned (.bool true)∧Below w.heap.size w w':=by
 obtain ⟨a,cap,rfl,l1,l2, -⟩:=code_cells h
 obtain ⟨a2,cap2,rfl,m1,m2, -⟩:=code_cells h2
 unfold maxLen at l2 m2
 by_cases hl:1048576<bs.length
 ·go_enter Tryz.func3,Tryz.ntmps3
  go_wp2
  go_ret
  exact ⟨rfl,by (repeat' (first | with_reducible exact Below.refl _ _ | with_reducible assumption | with_reducible refine Below.setCell ?_ ?_ _ | with_reducible refine Below.alloc ?_ ?_ _ | with_reducible refine Below.drew ?_ | with_reducible refine belDrewN ?_ _ | with_reducible refine Below.trans ?_ (Below.mono (by assumption) ?_) | omega | (simp;omega) | (simp;done)))⟩
 by_cases hl2:1048576<bs2.length
 ·go_enter Tryz.func3,Tryz.ntmps3
  go_wp2
  go_ret
  exact ⟨rfl,by (repeat' (first | with_reducible exact Below.refl _ _ | with_reducible assumption | with_reducible refine Below.setCell ?_ ?_ _ | with_reducible refine Below.alloc ?_ ?_ _ | with_reducible refine Below.drew ?_ | with_reducible refine belDrewN ?_ _ | with_reducible refine Below.trans ?_ (Below.mono (by assumption) ?_) | omega | (simp;omega) | (simp;done)))⟩
 have hsd:bs2.length≤1048576:=by omega
 generalize bs2.length=sd at *
 go_enter Tryz.func3,Tryz.ntmps3
 go_wp2_with fail
 refine (drawUf_any _ _ _ h).mono ?_
 rintro e w1 ⟨v0,cs,acc,rfl,ho,hl3,hrc,hb_w1⟩
 have hw_w1:=hb_w1
 have HS:=Lib.hid (ho.mono (Nat.zero_le _))
 have HT:=Lib.hid (ht.below hb_w1)
 have HC2:=Lib.hid (show CodeAt w1 (.slice a2 sd cap2) bs2 from ⟨h2.1.below hb_w1,h2.2⟩)
 have HRC:=Lib.hid hrc
 have HL3:=Lib.hid hl3
 have HRN:=Lib.hid (rc_small hrc hl3)
 clear hb_w1 ho hrc h h2 ht
 obtain ⟨sa,sc,rfl, -, -⟩:=HS.out.form
 obtain ⟨n,hn⟩:∃ n,cs.length=n:=⟨_,rfl⟩
 rw [hn] at HS
 rw [hn]
 clear hn hl3
 obtain ⟨W,hW⟩:∃ W,w1.alloc (.cells #[.slice sa n sc,.bool acc] 25)=W:=⟨_,rfl⟩
 have hal:Below w1.heap.size w1 W:=by rw [← hW];exact bR.alloc (Nat.le_refl _) _
 have hcr:C2u W w1.heap.size (.slice sa n sc) (.bool acc):=by rw [← hW];exact C2u.new _ _ _ _
 have hw_W:=hw_w1.trans (hal.mono hw_w1.size)
 clear hw_w1
 replace HS:=Lib.hid (HS.out.below hal)
 replace HT:=Lib.hid (HT.out.below hal)
 replace HC2:=Lib.hid (code_bel HC2.out hal)
 have HCR:=Lib.hid (hcr)
 clear hal hcr
 have HF:=Lib.hid (fun h:rsvalid cs=true=>rs_six h)
 obtain ⟨R,hR⟩:∃ R,(ufRes cs 6).getD []=R:=⟨_,rfl⟩
 have HR:=Lib.hid hR
 have HV:=Lib.hid (show fvalid R=true by rw [← hR];exact ufRes_valid)
 obtain ⟨q,hq⟩:∃ q,(ufRes cs 6).isSome=q:=⟨_,rfl⟩
 have HQ:=Lib.hid hq
 clear hR hq
 have rl:=HCR.out.l
 have r0:=HCR.out.c0
 have r1:=HCR.out.c1
 go_wp2_with fail
 refine (implUf_any cs 6 acc _ _ HS.out HT.out HF.out HQ.out).mono ?_
 rintro e w2 ⟨v2,rfl,ho,hb_w2⟩
 have hw_w2:=hw_W.trans (hb_w2.mono hw_W.size)
 clear hw_W
 replace HS:=Lib.hid (HS.out.below hb_w2)
 replace HT:=Lib.hid (HT.out.below hb_w2)
 replace HC2:=Lib.hid (code_bel HC2.out hb_w2)
 replace HCR:=Lib.hid (C2u.bel HCR.out hb_w2)
 have HX:=Lib.hid (by have h9:=ho.fts;rw [HR.out] at h9;exact h9.mono (Nat.zero_le _))
 clear hb_w2 ho hW
 clear rl r0 r1
 obtain ⟨xa,xc,rfl,hlc_xa,hcm_xa⟩:=HX.out.form
 unfold maxLen at hcm_xa
 have rl:=HCR.out.l
 have r0:=HCR.out.c0
 have r1:=HCR.out.c1
 go_wp2_with fail
 refine (specUf_any cs 6 acc _ _ HS.out HRN.out HF.out HQ.out).mono ?_
 rintro e w3 ⟨v3,rfl,ho,hb_w3⟩
 have hw_w3:=hw_w2.trans (hb_w3.mono hw_w2.size)
 clear hw_w2
 replace HS:=Lib.hid (HS.out.below hb_w3)
 replace HT:=Lib.hid (HT.out.below hb_w3)
 replace HC2:=Lib.hid (code_bel HC2.out hb_w3)
 replace HCR:=Lib.hid (C2u.bel HCR.out hb_w3)
 replace HX:=Lib.hid (HX.out.below hb_w3)
 have HY:=Lib.hid (by have h9:=ho;rw [HR.out] at h9;exact h9)
 clear hb_w3 ho
 clear rl r0 r1
 obtain ⟨ya,yc,rfl,hlc_ya,hcm_ya⟩:=HY.out.form
 unfold maxLen at hcm_ya
 go_wp2_with fail
 refine (sameFlats_e HX.out HY.out).mono ?_
 rintro e w4 ⟨rfl,hb_w4⟩
 have hw_w4:=hw_w3.trans (hb_w4.mono hw_w3.size)
 clear hw_w3
 replace HS:=Lib.hid (HS.out.below hb_w4)
 replace HT:=Lib.hid (HT.out.below hb_w4)
 replace HC2:=Lib.hid (code_bel HC2.out hb_w4)
 replace HCR:=Lib.hid (C2u.bel HCR.out hb_w4)
 replace HX:=Lib.hid (HX.out.below hb_w4)
 replace HY:=Lib.hid (HY.out.below hb_w4)
 clear hb_w4
 clear HY
 cases q
 ·have hR0:R.length=0:=by
   have h9:=HQ.out
   rw [← HR.out]
   cases e:ufRes cs 6 with
   | none=>rfl
   | some x=>rw [e] at h9;cases h9
  rw [hR0]
  clear hR0
  go_wp2_with fail
  refine (alive_any _).mono ?_
  rintro e w5 ⟨rfl,hb_w5⟩
  have hw_w5:=hw_w4.trans (hb_w5.mono hw_w4.size)
  clear hw_w4
  replace HS:=Lib.hid (HS.out.below hb_w5)
  replace HT:=Lib.hid (HT.out.below hb_w5)
  replace HC2:=Lib.hid (code_bel HC2.out hb_w5)
  replace HCR:=Lib.hid (C2u.bel HCR.out hb_w5)
  replace HX:=Lib.hid (HX.out.below hb_w5)
  clear hb_w5
  go_wp2
  go_ret
  exact ⟨rfl,hw_w5⟩
 ·have hsome:ufRes cs 6=some R:=by
   obtain ⟨x,hx⟩:=Option.isSome_iff_exists.1 HQ.out
   have h9:=HR.out
   rw [hx] at h9 ⊢
   exact congrArg some h9
  have HP2:=Lib.hid (fun (k l:Nat) (f g:Ft) (hlk:l<k) (hf:R[k]?=some f) (hg:R[l]?=some g)=>uf_pairs HRC.out HL3.out hsome hlk hf hg)
  have HJD:=Lib.hid (fun p=>jd_same hsome acc p)
  clear hsome
  have hv:=HV.out
  have hpb:∀ (k':Nat) b',(fbx R)[k']?=some b'→b'.length≤100∧∀ (j:Nat) xs,b'[j]?=some xs→xs.length≤1000:=fun k' b' hb'=>by
   rw [fbx,hv] at hb'
   simp only [if_true,fboxes,List.getElem?_map,Option.map_eq_some_iff] at hb'
   obtain ⟨f,hf,rfl⟩:=hb'
   have hvf:=fvalid_at hv hf
   refine ⟨by have:=(bvalid_four hvf).1;omega,fun j xs hx=>?_⟩
   have hj:j<4:=by have h9:=(List.getElem?_eq_some_iff.1 hx).1;have:=(bvalid_four hvf).1;omega
   have h9:=svalid_len ((bvalid_four hvf).2 j xs hj hx)
   omega
  have hpl:(fbx R).length≤100:=by
   have h9:=fvalid_60 hv
   rw [fbx,hv];simp [fboxes];omega
  have HPB:=Lib.hid hpb
  have HPL:=Lib.hid hpl
  clear hpb hpl
  go_wp2_with fail
  refine (implFB_any R _ _ HX.out HT.out).mono ?_
  rintro e w6 ⟨v4,rfl,hx4,hb_w6⟩
  have hw_w6:=hw_w4.trans (hb_w6.mono hw_w4.size)
  clear hw_w4
  replace HS:=Lib.hid (HS.out.below hb_w6)
  replace HT:=Lib.hid (HT.out.below hb_w6)
  replace HC2:=Lib.hid (code_bel HC2.out hb_w6)
  replace HCR:=Lib.hid (C2u.bel HCR.out hb_w6)
  replace HX:=Lib.hid (HX.out.below hb_w6)
  have HFB:=Lib.hid (hx4)
  clear hb_w6 hx4
  go_wp2_with fail
  refine (probe_any (fbx R) v4 sd _ HFB.out hsd HPL.out HPB.out).mono ?_
  rintro e w7 ⟨⟨pa,pb,pc,pd⟩,rfl,hb_w7⟩
  have hw_w7:=hw_w6.trans (hb_w7.mono hw_w6.size)
  clear hw_w6
  replace HS:=Lib.hid (HS.out.below hb_w7)
  replace HT:=Lib.hid (HT.out.below hb_w7)
  replace HC2:=Lib.hid (code_bel HC2.out hb_w7)
  replace HCR:=Lib.hid (C2u.bel HCR.out hb_w7)
  replace HX:=Lib.hid (HX.out.below hb_w7)
  replace HFB:=Lib.hid (HFB.out.below hb_w7)
  clear hb_w7
  clear HFB
  obtain ⟨W,hW⟩:∃ W,w7.alloc (.cells #[.int .i64 pa,.int .i64 pb,.int .i64 pc,.int .i64 pd] 33)=W:=⟨_,rfl⟩
  have hal:Below w7.heap.size w7 W:=by rw [← hW];exact bR.alloc (Nat.le_refl _) _
  have hbx:Box4 W w7.heap.size pa pb pc pd:=by rw [← hW];exact Box4.new w7 pa pb pc pd _
  have hw_W:=hw_w7.trans (hal.mono hw_w7.size)
  clear hw_w7
  replace HS:=Lib.hid (HS.out.below hal)
  replace HT:=Lib.hid (HT.out.below hal)
  replace HC2:=Lib.hid (code_bel HC2.out hal)
  replace HCR:=Lib.hid (C2u.bel HCR.out hal)
  replace HX:=Lib.hid (HX.out.below hal)
  have HP:=Lib.hid (hbx)
  clear hal hbx
  go_wp2_with fail
  refine (drawPN_any bs2 _ _ HC2.out).mono ?_
  rintro e w8 ⟨⟨qa,qb,qc,qd⟩,rfl,hb_w8⟩
  have hw_w8:=hw_W.trans (hb_w8.mono hw_W.size)
  clear hw_W
  replace HS:=Lib.hid (HS.out.below hb_w8)
  replace HT:=Lib.hid (HT.out.below hb_w8)
  replace HC2:=Lib.hid (code_bel HC2.out hb_w8)
  replace HCR:=Lib.hid (C2u.bel HCR.out hb_w8)
  replace HX:=Lib.hid (HX.out.below hb_w8)
  replace HP:=Lib.hid (Box4.bel HP.out hb_w8)
  clear hb_w8
  clear HC2
  obtain ⟨V,hV⟩:∃ V,w8.alloc (.cells #[.int .i64 qa,.int .i64 qb,.int .i64 qc,.int .i64 qd] 33)=V:=⟨_,rfl⟩
  have hal:Below w8.heap.size w8 V:=by rw [← hV];exact bR.alloc (Nat.le_refl _) _
  have hbx:Box4 V w8.heap.size qa qb qc qd:=by rw [← hV];exact Box4.new w8 qa qb qc qd _
  have hw_V:=hw_w8.trans (hal.mono hw_w8.size)
  clear hw_w8
  replace HS:=Lib.hid (HS.out.below hal)
  replace HT:=Lib.hid (HT.out.below hal)
  replace HCR:=Lib.hid (C2u.bel HCR.out hal)
  replace HX:=Lib.hid (HX.out.below hal)
  replace HP:=Lib.hid (Box4.bel HP.out hal)
  have HP9:=Lib.hid (hbx)
  clear hal hbx
  obtain ⟨jq,hj1⟩:∃ jq,jd cs 6 acc ⟨pa,pb,pc,pd⟩=jq:=⟨_,rfl⟩
  obtain ⟨jr,hj2⟩:∃ jr,jd cs 6 acc ⟨qa,qb,qc,qd⟩=jr:=⟨_,rfl⟩
  have HJ1:=Lib.hid hj1
  have HJ2:=Lib.hid hj2
  have HK1:=Lib.hid ((HJD.out ⟨pa,pb,pc,pd⟩).trans hj1)
  have HK2:=Lib.hid ((HJD.out ⟨qa,qb,qc,qd⟩).trans hj2)
  have h60:=fvalid_60 hv
  obtain ⟨m,hm⟩:∃ m,R.length=m:=⟨_,rfl⟩
  have HM:=Lib.hid hm
  rw [hm] at HX h60 hlc_xa ⊢
  clear hj1 hj2 hm hv HPB HPL
  go_wp2_with fail
  go_loopw [12] (fun i wr=>∃ k:Nat,k≤m∧i=.int .i64 k∧Below V.heap.size V wr) (fun i _=>m - (intOf i).toNat)
  case atStart=>exact ⟨0,by omega,rfl,Below.refl _ _⟩
  case round =>
   clear hV hW
   obtain ⟨k,hk,rfl,hbr⟩:=hrel
   by_cases hlt:k<m
   ·have i1:(k:Int)<(m:Int):=by omega
    have i2:(0:Int)≤(k:Int):=by omega
    obtain ⟨f,hf⟩:∃ f,R[k]?=some f:=⟨_,List.getElem?_eq_getElem (by rw [HM.out];exact hlt)⟩
    have HFK:=Lib.hid hf
    clear hf
    go_wp2_with fail
    go_loopw [13] (fun i wr=>∃ l:Nat,l≤k∧i=.int .i64 l∧Below V.heap.size V wr) (fun i _=>k - (intOf i).toNat)
    case atStart=>exact ⟨0,by omega,rfl,hbr⟩
    case round =>
     clear hbr
     obtain ⟨l,hl,rfl,hbr⟩:=hrel
     have hzr:=hbr.size
     by_cases hlk:l<k
     ·have j1:(l:Int)<(k:Int):=by omega
      have j2:(0:Int)≤(l:Int):=by omega
      have j3:(l:Int)<(m:Int):=by omega
      by_cases h20:m≤20
      ·have j4:(m:Int)≤20:=by omega
       obtain ⟨g,hg⟩:∃ g,R[l]?=some g:=⟨_,List.getElem?_eq_getElem (by rw [HM.out];omega)⟩
       obtain ⟨hmv,hbv,hbe⟩:=HP2.out k l f g hlk HFK.out hg
       have HX9:=Lib.hid (HX.out.below hbr)
       have HT9:=Lib.hid (HT.out.below hbr)
       obtain ⟨b,o,s1,hxa,hbl,c0, -,hs1⟩:=HX9.out.at HFK.out
       subst hxa
       obtain ⟨b',o',s2,he, -,c1, -,hs2⟩:=HX9.out.at hg
       cases he
       obtain ⟨a1,e1,hs1f, -, -⟩:=hs1.form
       obtain ⟨a3,e3,hs2f, -, -⟩:=hs2.form
       generalize f.box.length=n1 at hs1f
       generalize g.box.length=n3 at hs2f
       subst hs1f
       subst hs2f
       have HS1:=Lib.hid hs1
       have HS2:=Lib.hid hs2
       have HMV:=Lib.hid hmv
       have HBV:=Lib.hid hbv
       have HBE:=Lib.hid hbe
       clear hs1 hs2 hmv hbv hbe hg
       go_wp2_with fail
       (refine wp_region_bel (W:=wr) [BIs (.slice (some ⟨b,o,none⟩) m xc),BIs (.int .i64 (k:Int)),BIs (.pointer (some ⟨b,o+k*2,none⟩)),BIs (.pointer (some ⟨b,o+k*2,none⟩)),BIs (.agg #[.slice a1 n1 e1]),BIs (.slice (some ⟨b,o,none⟩) m xc),BIs (.int .i64 (l:Int)),BIs (.pointer (some ⟨b,o+l*2,none⟩)),BIs (.pointer (some ⟨b,o+l*2,none⟩)),BIs (.agg #[.slice a3 n3 e3]),(fun w v=>∃ z,v=.agg #[z]∧Rws 0 w z (bmeet f.box g.box)),(BIs (.bool true)),BIs (.bool false)] (by kernel_rfl) (fun u=>by simp only [frU,Act.put,List.setIfInBounds_toArray,List.set_cons_succ,List.set_cons_zero,Nat.zero_add,Nat.reduceAdd];exact rfl) (by kernel_rfl) ⟨bst_is _,bst_is _,bst_is _,bst_is _,bst_is _,bst_is _,bst_is _,bst_is _,bst_is _,bst_is _,(fun _ _ _ hb h=>(let ⟨z,h1,h2⟩:=h;⟨z,h1,h2.below hb⟩)),(bst_is _),bst_is _,trivial⟩ ?_ ?_;exact ⟨stB rfl (fun u w3 hC hd Q K hK=>by (go_step;exact hK _ _ rfl bR rfl)),stB rfl (fun u w3 hC hd Q K hK=>by (go_step;exact hK _ _ rfl bR rfl)),stB rfl (fun u w3 hC hd Q K hK=>by (rw [bis (w:=w3) (hd 0 rfl)] at hK ⊢;rw [bis (w:=w3) (hd 1 rfl)] at hK ⊢;go_step;exact hK _ _ rfl bR rfl)),stB rfl (fun u w3 hC hd Q K hK=>by (rw [bis (w:=w3) (hd 2 rfl)] at hK ⊢;go_step;exact hK _ _ rfl bR rfl)),stB rfl (fun u w3 hC hd Q K hK=>by (rw [bis (w:=w3) (hd 3 rfl)] at hK ⊢;have z0:=(hC.cell (p:=⟨b,o+k*2,none⟩) hbl).trans c0;go_step;exact hK _ _ rfl bR rfl)),stB rfl (fun u w3 hC hd Q K hK=>by (go_step;exact hK _ _ rfl bR rfl)),stB rfl (fun u w3 hC hd Q K hK=>by (go_step;exact hK _ _ rfl bR rfl)),stB rfl (fun u w3 hC hd Q K hK=>by (rw [bis (w:=w3) (hd 5 rfl)] at hK ⊢;rw [bis (w:=w3) (hd 6 rfl)] at hK ⊢;go_step;exact hK _ _ rfl bR rfl)),stB rfl (fun u w3 hC hd Q K hK=>by (rw [bis (w:=w3) (hd 7 rfl)] at hK ⊢;go_step;exact hK _ _ rfl bR rfl)),stB rfl (fun u w3 hC hd Q K hK=>by (rw [bis (w:=w3) (hd 8 rfl)] at hK ⊢;have z0:=(hC.cell (p:=⟨b,o+l*2,none⟩) hbl).trans c1;go_step;exact hK _ _ rfl bR rfl)),stB rfl (fun u w3 hC hd Q K hK=>by (rw [bis (w:=w3) (hd 4 rfl)] at hK ⊢;rw [bis (w:=w3) (hd 9 rfl)] at hK ⊢;go_step;refine (implBMt_u (HS1.out.below hC) (HS2.out.below hC) (HT9.out.below hC) HMV.out).mono ?_;rintro e w4 ⟨z,rfl,hz,hb4⟩;exact hK _ _ rfl hb4 ⟨z,rfl,hz⟩)),stB rfl (fun u w3 hC hd Q K hK=>by (obtain ⟨z,hu,hz⟩:=hd 10 rfl;rw [hu] at hK ⊢;clear hu;go_step;refine (implBE_b hz (HT9.out.below hC) HBV.out HBE.out).mono ?_;rintro e w4 ⟨rfl,hb4⟩;exact hK _ _ rfl hb4 rfl)),stB rfl (fun u w3 hC hd Q K hK=>by (rw [bis (w:=w3) (hd 11 rfl)] at hK ⊢;go_step;exact hK _ _ rfl bR rfl)),trivial⟩);intro u w9 hb_w9 hF;rw [bis (w:=w9) (hF 0 (by decide))];rw [bis (w:=w9) (hF 1 (by decide))];rw [bis (w:=w9) (hF 2 (by decide))];rw [bis (w:=w9) (hF 3 (by decide))];rw [bis (w:=w9) (hF 4 (by decide))];rw [bis (w:=w9) (hF 5 (by decide))];rw [bis (w:=w9) (hF 6 (by decide))];rw [bis (w:=w9) (hF 7 (by decide))];rw [bis (w:=w9) (hF 8 (by decide))];rw [bis (w:=w9) (hF 9 (by decide))];generalize u 10=vx10 at *;generalize u 11=vx11 at *;rw [bis (w:=w9) (hF 12 (by decide))];clear hF
       have HB9:=Lib.hid (hbr.trans (hb_w9.mono hzr))
       clear hb_w9
       go_wp2
       go_roundw
       case rel=>exact ⟨l+1,by omega,by go_num,HB9.out⟩
       case measure=>simp [intOf];omega
      ·have j4:¬ (m:Int)≤20:=by omega
       go_wp2
       go_roundw
       case rel=>exact ⟨k+1,by omega,by go_num,hbr⟩
       case measure=>simp [intOf];omega
     ·have j1:¬ (l:Int)<(k:Int):=by omega
      go_wp2
      go_roundw
      case rel=>exact ⟨k+1,by omega,by go_num,hbr⟩
      case measure=>simp [intOf];omega
   ·have i1:¬ (k:Int)<(m:Int):=by omega
    have hw_wr:=hw_V.trans (hbr.mono hw_V.size)
    clear hw_V
    replace HS:=Lib.hid (HS.out.below hbr)
    replace HT:=Lib.hid (HT.out.below hbr)
    replace HCR:=Lib.hid (C2u.bel HCR.out hbr)
    replace HX:=Lib.hid (HX.out.below hbr)
    replace HP:=Lib.hid (Box4.bel HP.out hbr)
    replace HP9:=Lib.hid (Box4.bel HP9.out hbr)
    clear hbr
    have rl:=HCR.out.l
    have r0:=HCR.out.c0
    have r1:=HCR.out.c1
    obtain ⟨zl,z0,z1,z2,z3, -⟩:=HP.out
    obtain ⟨yl,y0,y1,y2,y3, -⟩:=HP9.out
    go_wp2_with fail
    (refine wp_region_belG (W:=wr) [BIs (.slice xa m xc),(BIs (.bool true)),BIs (.bool true),BIs (.slice xa m xc),BIs (.pointer (some ⟨w1.heap.size,1,none⟩)),BIs (.bool acc),BIs (.agg #[.int .i64 pa,.int .i64 pb,.int .i64 pc,.int .i64 pd]),(BIs (.bool jq)),BIs (.agg #[.slice sa n sc,.bool acc]),BIs (.agg #[.int .i64 pa,.int .i64 pb,.int .i64 pc,.int .i64 pd]),(BIs (.bool jq)),(BIs (.bool true)),BIs (.bool true),BIs (.bool true),BIs (.slice xa m xc),BIs (.pointer (some ⟨w1.heap.size,1,none⟩)),BIs (.bool acc),BIs (.agg #[.int .i64 qa,.int .i64 qb,.int .i64 qc,.int .i64 qd]),(BIs (.bool jr)),BIs (.agg #[.slice sa n sc,.bool acc]),BIs (.agg #[.int .i64 qa,.int .i64 qb,.int .i64 qc,.int .i64 qd]),(BIs (.bool jr)),(BIs (.bool true)),BIs (.bool true),BIs (.bool true)] (by kernel_rfl) (fun u=>by simp only [frU,Act.put,List.setIfInBounds_toArray,List.set_cons_succ,List.set_cons_zero,Nat.zero_add,Nat.reduceAdd];exact rfl) (by kernel_rfl) ⟨bst_is _,(bst_is _),bst_is _,bst_is _,bst_is _,bst_is _,bst_is _,(bst_is _),bst_is _,bst_is _,(bst_is _),(bst_is _),bst_is _,bst_is _,bst_is _,bst_is _,bst_is _,bst_is _,(bst_is _),bst_is _,bst_is _,(bst_is _),(bst_is _),bst_is _,bst_is _,trivial⟩ ?_ ?_;exact ⟨stG (fun u w3 hC hd=>⟨rfl,fun Q K hK=>by (go_step;exact hK _ _ rfl bR rfl)⟩),stG (fun u w3 hC hd=>⟨rfl,fun Q K hK=>by (rw [bis (w:=w3) (hd 0 rfl)] at hK ⊢;go_step;refine (implFV_b (HX.out.below hC) (HT.out.below hC) HV.out).mono ?_;rintro e w4 ⟨rfl,hb4⟩;exact hK _ _ rfl hb4 rfl)⟩),stG (fun u w3 hC hd=>⟨rfl,fun Q K hK=>by (rw [bis (w:=w3) (hd 1 rfl)] at hK ⊢;go_step;exact hK _ _ rfl bR rfl)⟩),stG (fun u w3 hC hd=>⟨by (have hu:=bis (w:=w3) (hd 2 rfl);rw [hu];rfl),fun Q K hK=>by (go_step;exact hK _ _ rfl bR rfl)⟩),stG (fun u w3 hC hd=>⟨by (have hu:=bis (w:=w3) (hd 2 rfl);rw [hu];rfl),fun Q K hK=>by (go_step;exact hK _ _ rfl bR rfl)⟩),stG (fun u w3 hC hd=>⟨by (have hu:=bis (w:=w3) (hd 2 rfl);rw [hu];rfl),fun Q K hK=>by (rw [bis (w:=w3) (hd 4 rfl)] at hK ⊢;have e1:=(hC.cell (p:=⟨w1.heap.size,1,none⟩) rl).trans r1;go_step;exact hK _ _ rfl bR rfl)⟩),stG (fun u w3 hC hd=>⟨by (have hu:=bis (w:=w3) (hd 2 rfl);rw [hu];rfl),fun Q K hK=>by (have e0:=(hC.cell (p:=⟨w7.heap.size,0,none⟩) zl).trans z0;have e1:=(hC.cell (p:=⟨w7.heap.size,1,none⟩) zl).trans z1;have e2:=(hC.cell (p:=⟨w7.heap.size,2,none⟩) zl).trans z2;have e3:=(hC.cell (p:=⟨w7.heap.size,3,none⟩) zl).trans z3;go_step;exact hK _ _ rfl bR rfl)⟩),stG (fun u w3 hC hd=>⟨by (have hu:=bis (w:=w3) (hd 2 rfl);rw [hu];rfl),fun Q K hK=>by (rw [bis (w:=w3) (hd 3 rfl)] at hK ⊢;rw [bis (w:=w3) (hd 5 rfl)] at hK ⊢;rw [bis (w:=w3) (hd 6 rfl)] at hK ⊢;go_step;refine (implJF_b (HX.out.below hC) (HT.out.below hC) HK1.out).mono ?_;rintro e w4 ⟨rfl,hb4⟩;exact hK _ _ rfl hb4 rfl)⟩),stG (fun u w3 hC hd=>⟨by (have hu:=bis (w:=w3) (hd 2 rfl);rw [hu];rfl),fun Q K hK=>by (have e0:=(hC.cell (p:=⟨w1.heap.size,0,none⟩) rl).trans r0;have e1:=(hC.cell (p:=⟨w1.heap.size,1,none⟩) rl).trans r1;go_step;exact hK _ _ rfl bR rfl)⟩),stG (fun u w3 hC hd=>⟨by (have hu:=bis (w:=w3) (hd 2 rfl);rw [hu];rfl),fun Q K hK=>by (have e0:=(hC.cell (p:=⟨w7.heap.size,0,none⟩) zl).trans z0;have e1:=(hC.cell (p:=⟨w7.heap.size,1,none⟩) zl).trans z1;have e2:=(hC.cell (p:=⟨w7.heap.size,2,none⟩) zl).trans z2;have e3:=(hC.cell (p:=⟨w7.heap.size,3,none⟩) zl).trans z3;go_step;exact hK _ _ rfl bR rfl)⟩),stG (fun u w3 hC hd=>⟨by (have hu:=bis (w:=w3) (hd 2 rfl);rw [hu];rfl),fun Q K hK=>by (rw [bis (w:=w3) (hd 8 rfl)] at hK ⊢;rw [bis (w:=w3) (hd 9 rfl)] at hK ⊢;go_step;refine (implJudge_b (HS.out.below hC) (HT.out.below hC) HJ1.out).mono ?_;rintro e w4 ⟨rfl,hb4⟩;exact hK _ _ rfl hb4 rfl)⟩),stG (fun u w3 hC hd=>⟨by (have hu:=bis (w:=w3) (hd 2 rfl);rw [hu];rfl),fun Q K hK=>by (rw [bis (w:=w3) (hd 7 rfl)] at hK ⊢;rw [bis (w:=w3) (hd 10 rfl)] at hK ⊢;(go_step;exact hK _ _ rfl bR (by first | rfl | (cases jq<;>rfl))))⟩),stG (fun u w3 hC hd=>⟨rfl,fun Q K hK=>by (rw [bis (w:=w3) (hd 2 rfl)] at hK ⊢;rw [bis (w:=w3) (hd 11 rfl)] at hK ⊢;go_step;exact hK _ _ rfl bR rfl)⟩),stG (fun u w3 hC hd=>⟨rfl,fun Q K hK=>by (rw [bis (w:=w3) (hd 12 rfl)] at hK ⊢;go_step;exact hK _ _ rfl bR rfl)⟩),stG (fun u w3 hC hd=>⟨by (have hu:=bis (w:=w3) (hd 13 rfl);rw [hu];rfl),fun Q K hK=>by (go_step;exact hK _ _ rfl bR rfl)⟩),stG (fun u w3 hC hd=>⟨by (have hu:=bis (w:=w3) (hd 13 rfl);rw [hu];rfl),fun Q K hK=>by (go_step;exact hK _ _ rfl bR rfl)⟩),stG (fun u w3 hC hd=>⟨by (have hu:=bis (w:=w3) (hd 13 rfl);rw [hu];rfl),fun Q K hK=>by (rw [bis (w:=w3) (hd 15 rfl)] at hK ⊢;have e1:=(hC.cell (p:=⟨w1.heap.size,1,none⟩) rl).trans r1;go_step;exact hK _ _ rfl bR rfl)⟩),stG (fun u w3 hC hd=>⟨by (have hu:=bis (w:=w3) (hd 13 rfl);rw [hu];rfl),fun Q K hK=>by (have e0:=(hC.cell (p:=⟨w8.heap.size,0,none⟩) yl).trans y0;have e1:=(hC.cell (p:=⟨w8.heap.size,1,none⟩) yl).trans y1;have e2:=(hC.cell (p:=⟨w8.heap.size,2,none⟩) yl).trans y2;have e3:=(hC.cell (p:=⟨w8.heap.size,3,none⟩) yl).trans y3;go_step;exact hK _ _ rfl bR rfl)⟩),stG (fun u w3 hC hd=>⟨by (have hu:=bis (w:=w3) (hd 13 rfl);rw [hu];rfl),fun Q K hK=>by (rw [bis (w:=w3) (hd 14 rfl)] at hK ⊢;rw [bis (w:=w3) (hd 16 rfl)] at hK ⊢;rw [bis (w:=w3) (hd 17 rfl)] at hK ⊢;go_step;refine (implJF_b (HX.out.below hC) (HT.out.below hC) HK2.out).mono ?_;rintro e w4 ⟨rfl,hb4⟩;exact hK _ _ rfl hb4 rfl)⟩),stG (fun u w3 hC hd=>⟨by (have hu:=bis (w:=w3) (hd 13 rfl);rw [hu];rfl),fun Q K hK=>by (have e0:=(hC.cell (p:=⟨w1.heap.size,0,none⟩) rl).trans r0;have e1:=(hC.cell (p:=⟨w1.heap.size,1,none⟩) rl).trans r1;go_step;exact hK _ _ rfl bR rfl)⟩),stG (fun u w3 hC hd=>⟨by (have hu:=bis (w:=w3) (hd 13 rfl);rw [hu];rfl),fun Q K hK=>by (have e0:=(hC.cell (p:=⟨w8.heap.size,0,none⟩) yl).trans y0;have e1:=(hC.cell (p:=⟨w8.heap.size,1,none⟩) yl).trans y1;have e2:=(hC.cell (p:=⟨w8.heap.size,2,none⟩) yl).trans y2;have e3:=(hC.cell (p:=⟨w8.heap.size,3,none⟩) yl).trans y3;go_step;exact hK _ _ rfl bR rfl)⟩),stG (fun u w3 hC hd=>⟨by (have hu:=bis (w:=w3) (hd 13 rfl);rw [hu];rfl),fun Q K hK=>by (rw [bis (w:=w3) (hd 19 rfl)] at hK ⊢;rw [bis (w:=w3) (hd 20 rfl)] at hK ⊢;go_step;refine (implJudge_b (HS.out.below hC) (HT.out.below hC) HJ2.out).mono ?_;rintro e w4 ⟨rfl,hb4⟩;exact hK _ _ rfl hb4 rfl)⟩),stG (fun u w3 hC hd=>⟨by (have hu:=bis (w:=w3) (hd 13 rfl);rw [hu];rfl),fun Q K hK=>by (rw [bis (w:=w3) (hd 18 rfl)] at hK ⊢;rw [bis (w:=w3) (hd 21 rfl)] at hK ⊢;(go_step;exact hK _ _ rfl bR (by first | rfl | (cases jr<;>rfl))))⟩),stG (fun u w3 hC hd=>⟨rfl,fun Q K hK=>by (rw [bis (w:=w3) (hd 13 rfl)] at hK ⊢;rw [bis (w:=w3) (hd 22 rfl)] at hK ⊢;go_step;exact hK _ _ rfl bR rfl)⟩),stG (fun u w3 hC hd=>⟨rfl,fun Q K hK=>by (rw [bis (w:=w3) (hd 23 rfl)] at hK ⊢;go_step;exact hK _ _ rfl bR rfl)⟩),trivial⟩);intro u wz hb_wz hF;rw [bis (w:=wz) (hF 0 (by decide))];generalize u 1=vx1 at *;rw [bis (w:=wz) (hF 2 (by decide))];rw [bis (w:=wz) (hF 3 (by decide))];rw [bis (w:=wz) (hF 4 (by decide))];rw [bis (w:=wz) (hF 5 (by decide))];rw [bis (w:=wz) (hF 6 (by decide))];generalize u 7=vx7 at *;rw [bis (w:=wz) (hF 8 (by decide))];rw [bis (w:=wz) (hF 9 (by decide))];generalize u 10=vx10 at *;generalize u 11=vx11 at *;rw [bis (w:=wz) (hF 12 (by decide))];rw [bis (w:=wz) (hF 13 (by decide))];rw [bis (w:=wz) (hF 14 (by decide))];rw [bis (w:=wz) (hF 15 (by decide))];rw [bis (w:=wz) (hF 16 (by decide))];rw [bis (w:=wz) (hF 17 (by decide))];generalize u 18=vx18 at *;rw [bis (w:=wz) (hF 19 (by decide))];rw [bis (w:=wz) (hF 20 (by decide))];generalize u 21=vx21 at *;generalize u 22=vx22 at *;rw [bis (w:=wz) (hF 23 (by decide))];rw [bis (w:=wz) (hF 24 (by decide))];clear hF
    have hw_wz:=hw_wr.trans (hb_wz.mono hw_wr.size)
    clear hw_wr
    replace HS:=Lib.hid (HS.out.below hb_wz)
    replace HT:=Lib.hid (HT.out.below hb_wz)
    replace HCR:=Lib.hid (C2u.bel HCR.out hb_wz)
    replace HX:=Lib.hid (HX.out.below hb_wz)
    replace HP:=Lib.hid (Box4.bel HP.out hb_wz)
    replace HP9:=Lib.hid (Box4.bel HP9.out hb_wz)
    go_wp2
    go_ret
    exact ⟨rfl,hw_wz⟩
end Go.Proofs.YtfcbbahlhjdefaaGreatDoor
